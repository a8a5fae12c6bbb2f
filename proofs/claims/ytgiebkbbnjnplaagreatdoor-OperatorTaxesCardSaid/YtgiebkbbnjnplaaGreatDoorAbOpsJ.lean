/- Operations, one by one. Part J: append and copy. -/
import Derived.Test.YtgiebkbbnjnplaaGreatDoorAbOpsI
import Derived.Laws.AppendOwn
namespace Go.Ab
section
variable {P : Program} {μ : Mu} {σ : Heap} {w : World} {ts : Tmps} {ρ : Operand → Value}

theorem cellEq {w w' : World} (h : w'.heap = w.heap) (a : Addr) : w'.cell? a = w.cell? a := by
  simp only [World.cell?, h]

theorem map_take_byteVal (s : List UInt8) (n : Nat) : VRels μ ((s.take n).map byteVal) ((s.take n).map fun b => (.int .u8 b.toNat : Value)) := by
  refine VRels.of (by simp) fun i a ha => ?_
  rw [List.getElem?_map] at ha ⊢
  cases hs : (s.take n)[i]? with
  | none => rw [hs] at ha; cases ha
  | some c => rw [hs] at ha; cases ha; exact ⟨_, rfl, byteVal_rel c⟩

/-- The cells of the first elements of a slice or a string. -/
theorem elems_rel (r : Rel μ σ w) {a : AVal} {v : Value} (h : VRel μ a v) {esz n m : Nat} (hm : lenA a = some m) (hn : n ≤ m) {xs : List AVal} (hx : elemsOf esz σ n a = some xs) :
    ∃ vs : List Value, VRels μ xs vs ∧ xs.length = n * esz ∧ ∀ w' : World, w'.heap = w.heap → (Builtin.firstCells esz n v).run P w' = .ok vs.toArray w' := by
  unfold elemsOf at hx
  split at hx
  · rename_i l c e z
    cases hx
    cases hm
    simp only [VRel] at h
    obtain ⟨h0, _, rfl⟩ := h
    have : n = 0 := by omega
    subst this
    exact ⟨[], .nil, by simp, fun w' _ => rfl⟩
  · rename_i b o l c ex z
    cases hm
    dsimp only at hx
    cases hz : Nat.beq z esz with
    | false => rw [hz] at hx; cases hx
    | true =>
      rw [hz] at hx
      have := Nat.eq_of_beq_eq_true hz
      subst this
      simp only [VRel] at h
      obtain ⟨q, cap', rfl, k1, k2, k3, pl, hpl, k4⟩ := h
      cases hn0 : Nat.beq n 0 with
      | true =>
        rw [hn0] at hx
        have := Nat.eq_of_beq_eq_true hn0
        subst this
        cases hx
        refine ⟨[], .nil, by simp, fun w' _ => ?_⟩
        show (loadCells q (0 * z)).run P w' = _
        rw [Nat.zero_mul]
        rfl
      | false =>
        rw [hn0] at hx
        have hne := Nat.ne_of_beq_eq_false hn0
        obtain ⟨vs, hvl, hcl, hcell, hr, _⟩ := r.loadN hx hpl
        refine ⟨vs, hr, hcl, fun w' hw' => ?_⟩
        rcases k4 with k4 | ⟨k4, _⟩
        · omega
        · subst k4
          have := run_loadCells_list (P := P) w' ⟨pl.p, pl.o + o, none⟩ vs (fun j v hj => by rw [cellEq hw']; exact hcell j v hj)
          rw [hvl, hcl] at this
          exact this
  · rename_i s
    cases hm
    dsimp only at hx
    cases hz : Nat.beq esz 1 with
    | false => rw [hz] at hx; cases hx
    | true =>
      rw [hz] at hx
      have := Nat.eq_of_beq_eq_true hz
      subst this
      cases hx
      rw [h.str]
      refine ⟨_, map_take_byteVal s n, ?_, fun w' _ => ?_⟩
      · rw [len_eq] at hn
        simp
        omega
      · show (pure _ : Sem (Array Value)).run P w' = _
        rw [ByteArray.extract_mk]
        simp
  · cases hx

theorem run_lenOf {a : AVal} {v : Value} (h : VRel μ a v) {n : Nat} (hn : lenA a = some n) : (Builtin.lenOf v).run P w = .ok n w := by
  rcases lenA_rel h hn with ⟨q, c, rfl⟩ | ⟨s, rfl, rfl⟩ <;> rfl

def AppTypes (P : Program) (argTypes : Array TypeId) (e : TypeId) : Prop :=
  ∃ t tx, argTypes[0]? = some t ∧ argTypes[1]? = some tx ∧ P.underlying t = some (.slice e) ∧ (P.underlying tx = some .string ∨ ∃ e', P.underlying tx = some (.slice e'))

theorem run_append_fits {argTypes : Array TypeId} {ty e : TypeId} (hT : AppTypes P argTypes e) {i : TypeInfo} (hi : P.info? e = some i) {base : Option Addr} {sLen sCap n : Nat} {x : Value}
    (hn : (Builtin.lenOf x).run P w = .ok n w) {news : List Value} (hnew : (Builtin.firstCells i.size n x).run P w = .ok news.toArray w) (hf : sLen + n ≤ sCap) {w' : World}
    (hst : match base with | some a => (storeCells (a.add (sLen * i.size)) news).run P w = .ok () w' | none => w' = w) :
    (Builtin.append_ argTypes ty #[.slice base sLen sCap, x]).run P w = .ok (.slice base (sLen + n) sCap) w' := by
  obtain ⟨t, tx, h0, h1, ht, htx⟩ := hT
  cases base with
  | none =>
    subst hst
    rcases htx with htx | ⟨e', htx⟩ <;> simp [Builtin.append_, h0, h1, run_underlying ht, run_underlying htx, sizeOf, typeInfo, hi, hn, hnew, hf]
  | some a =>
    simp only at hst
    rcases htx with htx | ⟨e', htx⟩ <;> simp [Builtin.append_, h0, h1, run_underlying ht, run_underlying htx, sizeOf, typeInfo, hi, hn, hnew, hf, hst]

theorem run_append_grows {argTypes : Array TypeId} {ty e : TypeId} (hT : AppTypes P argTypes e) {i : TypeInfo} {z : Value} (hi : P.info? e = some i) (hz : i.zero = some z) (hb : 1 ≤ i.bytes) {base : Option Addr} {sLen sCap n : Nat} {x : Value}
    (hn : (Builtin.lenOf x).run P w = .ok n w) {olds news : List Value} (hold : (Builtin.firstCells i.size sLen (.slice base sLen sCap)).run P w.drew = .ok olds.toArray w.drew) (hnew : (Builtin.firstCells i.size n x).run P w.drew = .ok news.toArray w.drew)
    (hg : sCap < sLen + n) (h48 : (sLen + n) * i.bytes ≤ 1099511627776) :
    (Builtin.append_ argTypes ty #[.slice base sLen sCap, x]).run P w =
      .ok (.slice (some ⟨w.heap.size, 0, none⟩) (sLen + n) (grownCap w (sLen + n) sCap e))
        (w.drew.alloc (.cells ((olds ++ news).toArray ++ Builtin.zeroCells z.cells (grownCap w (sLen + n) sCap e - (sLen + n))) e)) := by
  obtain ⟨t, tx, h0, h1, ht, htx⟩ := hT
  have hn' : ¬ (sLen + n ≤ sCap) := by omega
  have hb0 : ¬ i.bytes = 0 := by omega
  have hfit := growslice_fits hg (bytes := i.bytes) (by omega)
  have h48' : ¬ (281474976710656 < Builtin.nextslicecap (sLen + n) sCap * i.bytes) := by omega
  rcases htx with htx | ⟨e', htx⟩ <;>
    (simp [Builtin.append_, h0, h1, run_underlying ht, run_underlying htx, sizeOf, typeInfo, zeroValue, hi, hz, hn, hn', hb0, h48', Question.forced, hold, hnew, newRow, grownCap]
     congr 2
     apply Array.ext'
     simp [List.append_assoc])

end
end Go.Ab
