/- Operations, one by one. Part L: bytes and texts, ranges, outer functions, deferred calls. -/
import Derived.Test.YtgiebkbbnjnplaaGreatDoorAbOpsK
import Derived.Laws.BytesArg
import Derived.Laws.IdiomStrings
namespace Go.Ab
section
variable {P : Program} {μ : Mu} {σ : Heap} {w : World} {ts : Tmps} {ρ : Operand → Value}

theorem good_bytesOf (r : Rel μ σ w) (h : HOpd P μ ts ρ) {src dst e : TypeId} (hs : P.underlying src = some .string) (hd : P.underlying dst = some (.slice e)) (he : P.underlying e = some (.int .u8)) {x : Operand} {x' : Opd} (hx : compOpd P x = some x') :
    Good μ σ w (oBytesOf x' ts σ) ((do pure (Next.value (← convert src dst (ρ x))) : Sem Next).run P w) := by
  have hrx := h _ _ hx
  unfold oBytesOf
  cases hxe : x'.ev ts with
  | str s =>
    rw [hxe] at hrx
    dsimp only
    cases hb : Nat.ble (len s) 4294967296 with
    | false => trivial
    | true =>
      have hle : s.length ≤ 4294967296 := by rw [← len_eq]; exact Nat.le_of_ble_eq_true hb
      have hsz : (⟨s.toArray⟩ : ByteArray).size = s.length := by simp [ByteArray.size]
      have hge := grownCap_ge w s.length 0 e
      have r2 : Rel μ σ w.drew := r.heapEq rfl
      obtain ⟨c, hcd⟩ : ∃ c, c = bytesRow (⟨s.toArray⟩ : ByteArray) (grownCap w s.length 0 e) := ⟨_, rfl⟩
      have hcl : c.toList = (s.map fun b => (.int .u8 b.toNat : Value)) ++ List.replicate (grownCap w s.length 0 e - s.length) (.int .u8 0) := by
        rw [hcd]
        simp [bytesRow, ByteArray.size]
      have hcs : c.size = grownCap w s.length 0 e := by
        have := congrArg List.length hcl
        simp at this
        omega
      have hrel : VRels μ (s.map byteVal) (c.toList.take (s.map byteVal).length) := by
        have := map_take_byteVal (μ := μ) s s.length
        simp only [List.take_length] at this
        have e1 : c.toList.take (s.map byteVal).length = s.map fun b => (.int .u8 b.toNat : Value) := by
          rw [hcl, List.take_append_of_le_length (by simp), List.take_of_length_le (by simp)]
        rw [e1]
        exact this
      have hle2 : μ.le (μ.put σ.next ⟨w.heap.size, 0, c.size⟩) := Mu.put_le _ (r.fresh _ (Nat.le_refl _))
      obtain ⟨ra, ea⟩ := r2.new (.cells (s.map byteVal)) (.cells c e (c.size, c.size + 1)) ⟨w.heap.size, 0, c.size⟩ rfl
        ⟨c, e, c.size, c.size + 1, by show (w.heap.push (Obj.cells c e (c.size, c.size + 1)))[w.heap.size]? = _; simp, by simp, by simp [hcs]; exact hge, by simpa using hrel.mono hle2, (by
          intro a ha
          obtain ⟨b, _, rfl⟩ := List.mem_map.1 ha
          rfl), .inr (Nat.le_refl _)⟩
      refine ⟨_, _, .slice (some ⟨w.heap.size, 0, none⟩) s.length (grownCap w s.length 0 e), .inl ?_, ra, (Ext.drawn μ σ w _).trans ea, ?_⟩
      · rw [hrx.str]
        have := run_bytes_of_string w src dst e ⟨s.toArray⟩ hs hd he
        rw [hsz, ← hcd] at this
        rw [Sem.run_bind, this]
        rfl
      · simp only [VRel]
        refine ⟨_, grownCap w s.length 0 e, by rw [len_eq], Nat.le_refl _, by rw [len_eq]; exact hge, (fun h => by cases h), ⟨w.heap.size, 0, c.size⟩, by simp [Mu.put], .inr ⟨by simp, .inr ?_⟩⟩
        show 0 + grownCap w s.length 0 e * 1 ≤ c.size
        omega
  | _ => trivial

theorem good_textOf (r : Rel μ σ w) (h : HOpd P μ ts ρ) {src dst e : TypeId} (hs : P.underlying src = some (.slice e)) (hd : P.underlying dst = some .string) (he : P.underlying e = some (.int .u8)) {x : Operand} {x' : Opd} (hx : compOpd P x = some x') :
    Good μ σ w (oTextOf x' ts σ) ((do pure (Next.value (← convert src dst (ρ x))) : Sem Next).run P w) := by
  have hrx := h _ _ hx
  unfold oTextOf
  split
  · rename_i l c ex z e1
    rw [e1] at hrx
    simp only [VRel] at hrx
    obtain ⟨_, _, hv⟩ := hrx
    refine Good.val r (x := .string ⟨(#[] : Array UInt8)⟩) ?_ (VRel.mkStr [])
    rw [hv]
    simp [convert, run_underlying hs, run_underlying hd, run_underlying he, Conv.bytesToString]
    rfl
  · rename_i b o ln c ex esz e1
    rw [e1] at hrx
    simp only [VRel] at hrx
    obtain ⟨q, cap', hv, k1, k2, k3, pl, hpl, k4⟩ := hrx
    cases hez : Nat.beq esz 1 with
    | false => trivial
    | true =>
    have := Nat.eq_of_beq_eq_true hez
    subst this
    have key : ∀ (s : List UInt8), (loadCells q ln).run P w = .ok (s.map fun b => (.int .u8 b.toNat : Value)).toArray w → (convert src dst (ρ x)).run P w = .ok (.string ⟨s.toArray⟩) w := by
      intro s hl
      rw [hv, run_convert_bytes_string w src dst e _ _ _ hs he hd]
      have hl' : (loadCells q ln).run P w = .ok ((s.map fun b => (b.toNat : Int)).map (Value.int .u8)).toArray w := by
        rw [hl]
        simp
      rw [run_bytesToString w q ln cap' _ hl', foldl_push_byteCells]
      simp [ByteArray.empty, ByteArray.emptyWithCapacity]
      rfl
    cases hl0 : Nat.beq ln 0 with
    | true =>
      have := Nat.eq_of_beq_eq_true hl0
      subst this
      exact Good.val r (x := .string ⟨([] : List UInt8).toArray⟩) (by rw [Sem.run_bind, key [] rfl]; rfl) (VRel.mkStr [])
    | false =>
      have hne := Nat.ne_of_beq_eq_false hl0
      dsimp only
      cases hld : σ.loadN b o ln with
      | none => trivial
      | some cs =>
        dsimp only
        cases hm : mapO byteOf cs with
        | none => trivial
        | some s =>
          obtain ⟨vs, hvl, hcl, hcell, hr, _⟩ := r.loadN hld hpl
          rcases k4 with k4 | ⟨k4, _⟩
          · omega
          · subst k4
            have hload := run_loadCells_list (P := P) w ⟨pl.p, pl.o + o, none⟩ vs hcell
            rw [hvl, hcl] at hload
            obtain ⟨hsl, hsi⟩ := mapO_some _ _ _ hm
            have hvs : vs = s.map fun b => (.int .u8 b.toNat : Value) := by
              apply List.ext_getElem?
              intro j
              by_cases hj : j < cs.length
              · have hc := List.getElem?_eq_getElem hj
                obtain ⟨b', hb1, hb2⟩ := hsi j _ hc
                obtain ⟨v, hv1, hv2⟩ := hr.get _ _ hc
                rw [hv1, List.getElem?_map, hb2]
                unfold byteOf at hb1
                split at hb1
                · rename_i n hn
                  rw [hn] at hv2
                  cases hbl : Nat.ble n 255 with
                  | false => rw [hbl] at hb1; cases hb1
                  | true =>
                    rw [hbl] at hb1
                    cases hb1
                    have := Nat.le_of_ble_eq_true hbl
                    rw [hv2.int]
                    simp
                    omega
                · cases hb1
              · rw [List.getElem?_eq_none (by omega), List.getElem?_eq_none (by simp; omega)]
            subst hvs
            exact Good.val r (x := .string ⟨s.toArray⟩) (by rw [Sem.run_bind, key s hload]; rfl) (VRel.mkStr s)
  · trivial

theorem good_rangeStr (r : Rel μ σ w) (h : HOpd P μ ts ρ) {t : TypeId} (ht : P.underlying t = some .string) {x : Operand} {x' : Opd} (hx : compOpd P x = some x') :
    Good μ σ w (oRangeStr x' ts σ) ((do pure (Next.value (← Instr.range t (ρ x))) : Sem Next).run P w) := by
  have hrx := h _ _ hx
  unfold oRangeStr
  split
  · rename_i s e1
    rw [e1] at hrx
    obtain ⟨ra, ea⟩ := r.new (.iter s 0) (.stringIter ⟨s.toArray⟩ 0) ⟨w.heap.size, 0, 0⟩ rfl ⟨rfl, by simp⟩
    refine ⟨_, _, .pointer (some ⟨w.heap.size, 0, none⟩), .inl ?_, ra, ea, ?_⟩
    · rw [hrx.str]
      simp [Instr.range, run_underlying ht, newObj, Sem.run]
    · simp only [VRel]
      exact ⟨⟨w.heap.size, 0, 0⟩, by simp [Mu.put], rfl⟩
  · trivial

theorem decode_low (s : ByteArray) (i : Nat) (c : UInt8) (h : s.data.toList[i]? = some c) (hc : c.toNat ≤ 127) : Utf8.decode s i = (c.toNat, 1) := by
  have hlt : i < s.data.toList.length := (List.getElem?_eq_some_iff.1 h).1
  have hg : s.get! (i + 0) = c := by
    have : s.get! i = s.data[i]! := rfl
    rw [Nat.add_zero, this, getElem!_pos s.data i (by simpa using hlt)]
    have := (List.getElem?_eq_some_iff.1 h).2
    simpa using this
  unfold Utf8.decode
  simp only [hg]
  rw [if_pos (by omega)]

theorem good_nextStr (r : Rel μ σ w) (h : HOpd P μ ts ρ) {ty : TypeId} {x : Operand} {x' : Opd} (hx : compOpd P x = some x') :
    Good μ σ w (oNextStr x' ts σ) ((do pure (Next.value (← Instr.next (ρ x) true ty)) : Sem Next).run P w) := by
  have hrx := h _ _ hx
  unfold oNextStr
  split
  · rename_i b e1
    rw [e1] at hrx
    obtain ⟨pl, hpl, hv⟩ := hrx.ptr
    split
    · rename_i s pos hg
      obtain ⟨m', hm', h0, hob⟩ := r.objs _ _ hg
      rw [hpl] at hm'
      cases hm'
      have hlt : pl.p < w.heap.size := (Array.getElem?_eq_some_iff.1 hob).1
      have hsz : (⟨s.toArray⟩ : ByteArray).size = s.length := by simp [ByteArray.size]
      have hget : (getObj pl.p).run P w = .ok (.stringIter ⟨s.toArray⟩ pos) w := by simp [getObj, Sem.run, hob]
      have ev : pl.o + 0 = 0 := by omega
      rw [ev] at hv
      split
      · rename_i hn
        rw [nth?_eq] at hn
        have hge : s.length ≤ pos := by simpa using hn
        refine Good.val r (x := .tuple #[.bool false]) ?_ (by simp only [VRel]; exact ⟨_, rfl, .one (VRel.mkBool _)⟩)
        rw [hv]
        simp only [Instr.next, Sem.run_bind, hget, Result.andThen_ok, hsz]
        rw [if_neg (by omega)]
        rfl
      · rename_i c hn
        rw [nth?_eq] at hn
        cases hb : Nat.ble c.toNat 127 with
        | false => trivial
        | true =>
          have hc := Nat.le_of_ble_eq_true hb
          have hlt' : pos < s.length := (List.getElem?_eq_some_iff.1 hn).1
          have hdec := decode_low ⟨s.toArray⟩ pos c (by simpa using hn) hc
          obtain ⟨ra, ea⟩ := r.putObj hg (fun _ h => by cases h) hpl (.stringIter ⟨s.toArray⟩ (pos + 1)) (o := .iter s (pos + 1)) ⟨h0, by simp [hlt]⟩
          refine ⟨μ, _, .tuple #[.bool true, goInt pos, .int .i32 c.toNat], .inl ?_, ra, ea, ?_⟩
          · rw [hv]
            simp only [Instr.next, Sem.run_bind, hget, Result.andThen_ok, hsz]
            rw [if_pos hlt']
            have hset : (setObj pl.p (.stringIter ⟨s.toArray⟩ (pos + 1))).run P w = .ok () { w with heap := w.heap.setIfInBounds pl.p (.stringIter ⟨s.toArray⟩ (pos + 1)) } := by simp [setObj, Sem.run, hob]
            simp only [hdec, Sem.run_bind, hset, Result.andThen_ok, Sem.run_pure]
          · simp only [VRel]
            exact ⟨_, rfl, .cons (VRel.mkBool _) (.cons (VRel.mkInt _ _) (.one (VRel.mkInt _ _)))⟩
    · trivial
  · trivial

end
end Go.Ab
