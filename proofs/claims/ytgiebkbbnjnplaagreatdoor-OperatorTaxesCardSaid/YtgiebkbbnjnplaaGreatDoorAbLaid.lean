/- The listed variables, as they are laid, are what the abstract heap says of them. -/
import Derived.Test.YtgiebkbbnjnplaaGreatDoorRows
import Derived.Test.YtgiebkbbnjnplaaGreatDoorAbDraw7
import Derived.Test.YtgiebkbbnjnplaaGreatDoorAbSig
import Derived.ProofKit
import Derived.LaidMore
import Derived.OpenShut
import Derived.MakeChecks
namespace Go.Proofs.YtgiebkbbnjnplaaGreatDoor
open Go.Ab

section
variable {H : Type} {enc : TypeId × Value → H} {P : Program} {w : World} {base : Nat} {spare : Nat → Bool} {held : Bool} {fuel : Nat} {t e : TypeId} {cs : List Value} {p : List MemPlace} {n : Nat}

/-- An array of elements of one cell. -/
theorem cells_one (f : DataW H → Value) (ht : P.underlying t = some (.array n e)) (hc : P.cellsOf e = 1) (hct : P.cellsOf t = n) {ds : List (DataW H)} (h : DataW.trod enc P w base spare held fuel t cs = some (.agg ds, p))
    (he : ∀ (m : Nat) (c : List Value) (y : DataW H × List MemPlace), DataW.trod enc P w base spare held m e c = some y → c = [f y.1]) : cs = ds.map f := by
  obtain ⟨xs, m, rfl, hx, hl, hn, hel⟩ := DataW.trod_array ht h
  simp only [Prod.mk.injEq, DataW.agg.injEq] at hx
  obtain ⟨rfl, _⟩ := hx
  rw [hct] at hl
  apply List.ext_getElem?
  intro i
  by_cases hi : i < n
  · have h1 := hel i hi
    rw [hc, Nat.mul_one] at h1
    have hxi : xs[i]? = some (xs[i]'(by omega)) := List.getElem?_eq_getElem (by omega)
    rw [hxi] at h1
    have h2 := he _ _ _ h1
    have h3 : ((cs.drop i).take 1)[0]? = cs[i]? := by
      rw [List.getElem?_take, if_pos (by omega), List.getElem?_drop]
      simp
    rw [h2] at h3
    rw [← h3]
    simp [hxi]
  · rw [List.getElem?_eq_none (by omega), List.getElem?_eq_none (by simp; omega)]
end

/-- What a datum of an integer or of a text holds. -/
noncomputable def valOf {H : Type} : DataW H → Value
  | .lit (.int k n) => .int k n
  | .lit (.string s) => .string ⟨s.toArray⟩
  | _ => undef

theorem int_cell {H : Type} {enc : TypeId × Value → H} {P : Program} {w : World} {base : Nat} {spare : Nat → Bool} {held : Bool} {e : TypeId} {k : IntKind} (he : P.underlying e = some (.int k)) (m : Nat) (c : List Value) (y : DataW H × List MemPlace)
    (h : DataW.trod enc P w base spare held m e c = some y) : c = [valOf y.1] := by
  obtain ⟨n, rfl, rfl, _⟩ := DataW.trod_int he h
  rfl
theorem str_cell {H : Type} {enc : TypeId × Value → H} {P : Program} {w : World} {base : Nat} {spare : Nat → Bool} {held : Bool} {e : TypeId} (he : P.underlying e = some .string) (m : Nat) (c : List Value) (y : DataW H × List MemPlace)
    (h : DataW.trod enc P w base spare held m e c = some y) : c = [valOf y.1] := by
  obtain ⟨s, rfl, rfl, _⟩ := DataW.trod_string he h
  obtain ⟨d⟩ := s
  show [Value.string ⟨d⟩] = [Value.string ⟨d.toList.toArray⟩]
  rw [Array.toArray_toList]

theorem gM : Tryz.prog.globalNamed "lottery/calendar.monthDays" = some 2 := by kernel_rfl
theorem gD : Tryz.prog.globalNamed "lottery/ruletext.dayNames" = some 3 := by kernel_rfl
theorem gW : Tryz.prog.globalNamed "lottery/ticketno.weights" = some 0 := by kernel_rfl
theorem tM : (Tryz.prog.globals[2]?).map (·.type) = some 332 := by kernel_rfl
theorem tD : (Tryz.prog.globals[3]?).map (·.type) = some 389 := by kernel_rfl
theorem tW : (Tryz.prog.globals[0]?).map (·.type) = some 303 := by kernel_rfl
theorem uM : Tryz.prog.underlying 332 = some (.array 13 3) := by kernel_rfl
theorem uD : Tryz.prog.underlying 389 = some (.array 7 9) := by kernel_rfl
theorem uW : Tryz.prog.underlying 303 = some (.array 12 3) := by kernel_rfl
theorem u3 : Tryz.prog.underlying 3 = some (.int .i64) := by kernel_rfl
theorem u9 : Tryz.prog.underlying 9 = some .string := by kernel_rfl
theorem c3 : Tryz.prog.cellsOf 3 = 1 := by kernel_rfl
theorem c9 : Tryz.prog.cellsOf 9 = 1 := by kernel_rfl
theorem cM : Tryz.prog.cellsOf 332 = 13 := by kernel_rfl
theorem cD : Tryz.prog.cellsOf 389 = 7 := by kernel_rfl
theorem cW : Tryz.prog.cellsOf 303 = 12 := by kernel_rfl

/-- The list of what is laid. -/
abbrev laidL : List (String × DataW Unit) := [("lottery/calendar.monthDays", Rows.laid_lottery_calendar_monthDays), ("lottery/ruletext.dayNames", Rows.laid_lottery_ruletext_dayNames), ("lottery/ticketno.weights", Rows.laid_lottery_ticketno_weights)]

noncomputable def valsM : List Value := [0, 31, 28, 31, 30, 31, 30, 31, 31, 30, 31, 30, 31].map fun n => Value.int .i64 n
noncomputable def valsW : List Value := [15, 50, 5, 49, 34, 81, 76, 27, 90, 9, 30, 3].map fun n => Value.int .i64 n
noncomputable def valsD : List Value := [[109, 111, 110], [116, 117, 101], [119, 101, 100], [116, 104, 117], [102, 114, 105], [115, 97, 116], [115, 117, 110]].map fun (s : List UInt8) => Value.string ⟨s.toArray⟩

/-- The three blocks. -/
structure LaidIn (W : World) : Prop where
  w : ∃ t, W.heap[0]? = some (.cells valsW.toArray t (0, 0))
  m : ∃ t, W.heap[2]? = some (.cells valsM.toArray t (0, 0))
  d : ∃ t, W.heap[3]? = some (.cells valsD.toArray t (0, 0))

theorem block_of {P : Program} {W : World} {nm : String} {g : Nat} {cs : Array Value} {vs : List Value} {ps : List MemPlace} (hg : P.globalNamed nm = some g) (hv : W.var? P nm = some cs) (hvs : cs.toList = vs) (hpos : vs ≠ [])
    (hin : ∀ pl ∈ MemPlace.row ⟨g, 0, none⟩ cs.size, pl ∈ ps) (hall : ∀ b off, MemPlace.cell b off ∈ ps → ∃ c t, W.heap[b]? = some (.cells c t (0, 0))) : ∃ t, W.heap[g]? = some (.cells vs.toArray t (0, 0)) := by
  have hsz : 0 < cs.size := by
    rcases Nat.eq_zero_or_pos cs.size with h | h
    · exfalso
      have : cs.toList.length = 0 := by simpa using h
      rw [hvs] at this
      exact hpos (List.length_eq_zero_iff.1 this)
    · exact h
  have hmem : MemPlace.cell g 0 ∈ MemPlace.row ⟨g, 0, none⟩ cs.size := by
    unfold MemPlace.row
    simp
    exact hsz
  obtain ⟨c, t, hc⟩ := hall g 0 (hin _ hmem)
  refine ⟨t, ?_⟩
  unfold World.var? at hv
  rw [hg, Option.bind_some, hc] at hv
  simp only [Option.some.injEq] at hv
  subst hv
  rw [hc, ← hvs]

theorem of_laid {W : World} (h : laidMetH Tryz.prog laidL W) : LaidIn W := by
  rw [MakeChecks.laidMetH_plain _ _ _ (by kernel_rfl)] at h
  obtain ⟨ps, ⟨g0, t0, cs0, f0, p0, q0, hg0, ht0, hv0, hd0, ⟨g1, t1, cs1, f1, p1, q1, hg1, ht1, hv1, hd1, ⟨g2, t2, cs2, f2, p2, q2, hg2, ht2, hv2, hd2, hq2, e2⟩, e1⟩, e0⟩, _, hall⟩ := h
  obtain rfl := Option.some.inj (gM.symm.trans hg0)
  obtain rfl := Option.some.inj (gD.symm.trans hg1)
  obtain rfl := Option.some.inj (gW.symm.trans hg2)
  obtain rfl := Option.some.inj (tM.symm.trans ht0)
  obtain rfl := Option.some.inj (tD.symm.trans ht1)
  obtain rfl := Option.some.inj (tW.symm.trans ht2)
  have k0 : cs0.toList = valsM := cells_one valOf uM c3 cM hd0 (fun m c y h => int_cell u3 m c y h)
  have k1 : cs1.toList = valsD := cells_one valOf uD c9 cD hd1 (fun m c y h => str_cell u9 m c y h)
  have k2 : cs2.toList = valsW := cells_one valOf uW c3 cW hd2 (fun m c y h => int_cell u3 m c y h)
  have hall' : ∀ b off, MemPlace.cell b off ∈ ps → ∃ c t, W.heap[b]? = some (.cells c t (0, 0)) := fun b off hm => (hall b off hm).1
  subst e0 e1 e2
  refine ⟨?_, ?_, ?_⟩
  · exact block_of hg2 hv2 k2 (by simp [valsW]) (fun pl h => by simp [h]) hall'
  · exact block_of hg0 hv0 k0 (by simp [valsM]) (fun pl h => by simp [h]) hall'
  · exact block_of hg1 hv1 k1 (by simp [valsD]) (fun pl h => by simp [h]) hall'

end Go.Proofs.YtgiebkbbnjnplaaGreatDoor
