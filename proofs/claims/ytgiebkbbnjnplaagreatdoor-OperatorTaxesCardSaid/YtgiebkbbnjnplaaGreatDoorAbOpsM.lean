/- Operations, one by one. Part M: an outer function, deferred calls; all operations together. -/
import Derived.Test.YtgiebkbbnjnplaaGreatDoorAbOpsL
import Derived.KernelRfl
namespace Go.Ab

theorem ext_next : Extern.allNextRows.lookup "internal/bytealg.IndexByteString" = none := by kernel_rfl
theorem ext_next0 : Extern.allNextRows.lookup "" = none := by kernel_rfl
theorem ext_gen : Extern.allGenericRows.lookup "internal/bytealg.IndexByteString" = none := by kernel_rfl
theorem ext_typed : Extern.allTypedRows.lookup "internal/bytealg.IndexByteString" = none := by kernel_rfl
theorem ext_row : Extern.allRows.lookup "internal/bytealg.IndexByteString" = some Extern.BytealgIndexByte.indexByte := by kernel_rfl

section
variable {P : Program} {μ : Mu} {σ : Heap} {w : World} {ts : Tmps} {ρ : Operand → Value}

theorem findByte_eq (c : UInt8) : ∀ (s : List UInt8) (i : Nat) (t : List UInt8), (∀ j, t[i + j]? = s[j]?) → t.length = i + s.length →
    findByte s c.toNat i = (match (List.range' i s.length).find? (fun j => (⟨t.toArray⟩ : ByteArray)[j]! == c) with | some j => Int.ofNat j | none => -1)
  | [], i, t, _, _ => rfl
  | b :: s, i, t, h, hl => by
    have h0 := h 0
    simp only [Nat.add_zero, List.getElem?_cons_zero] at h0
    have hg : (⟨t.toArray⟩ : ByteArray)[i]! = b := by
      have hlt : i < t.length := by simp at hl; omega
      rw [getElem!_pos (⟨t.toArray⟩ : ByteArray) i (by simpa [ByteArray.size] using hlt)]
      have : (⟨t.toArray⟩ : ByteArray)[i]'(by simpa [ByteArray.size] using hlt) = t[i] := rfl
      rw [this]
      rw [List.getElem?_eq_getElem hlt] at h0
      exact Option.some.inj h0
    have ih := findByte_eq c s (i + 1) t (fun j => by rw [show i + 1 + j = i + (j + 1) from by omega, h (j + 1)]; simp) (by simp at hl; omega)
    have e1 : findByte (b :: s) c.toNat i = (Bool.casesOn (Nat.beq b.toNat c.toNat) (findByte s c.toNat (Nat.succ i)) (Int.ofNat i) : Int) := rfl
    rw [e1]
    simp only [List.length_cons, List.range'_succ, List.find?_cons, hg]
    cases hb : Nat.beq b.toNat c.toNat with
    | true =>
      have : b = c := UInt8.toNat_inj.1 (Nat.eq_of_beq_eq_true hb)
      subst this
      simp
    | false =>
      have hne : ¬ b = c := fun e => by subst e; exact Nat.ne_of_beq_eq_false hb rfl
      have : (b == c) = false := by simpa using hne
      rw [this]
      exact ih

theorem good_indexByte (r : Rel μ σ w) (h : HOpd P μ ts ρ) {f : FuncId} {fn : Func} (hf : P.funcs[f]? = some fn) (hb : fn.body = none) (hn : fn.name = "internal/bytealg.IndexByteString") (ho : fn.origin = "")
    {x y : Operand} {x' y' : Opd} (hx : compOpd P x = some x') (hy : compOpd P y = some y') :
    Good μ σ w (oIndexByte x' y' ts σ) ((callFunc f #[ρ x, ρ y]).run P w) := by
  have hrx := h _ _ hx
  have hry := h _ _ hy
  unfold oIndexByte
  split
  · rename_i s c e1 e2
    rw [e1] at hrx
    rw [e2] at hry
    cases hc : Nat.ble c 255 with
    | false => trivial
    | true =>
      have hle := Nat.le_of_ble_eq_true hc
      refine Good.val r (x := .int .i64 (findByte s c 0)) ?_ (VRel.mkInt _ _)
      rw [hrx.str, hry.int]
      have hfn : Extern.findNext fn = none := by
        simp only [Extern.findNext, hn, ho, ext_next, ext_next0]
        rfl
      have hff : Extern.find fn = some Extern.BytealgIndexByte.indexByte := by
        simp only [Extern.find, hn, ext_gen, ext_typed, ext_row]
        rfl
      have hnm : (fn.name == "runtime.NumGoroutine") = false := by rw [hn]; decide
      have hcc : ((Int.ofNat c).toNat.toUInt8).toNat = c := by
        show (UInt8.ofNat c).toNat = c
        simp
        omega
      have hfb := findByte_eq (Int.ofNat c).toNat.toUInt8 s 0 s (fun j => by simp) (by simp)
      rw [hcc] at hfb
      have hsz : (⟨s.toArray⟩ : ByteArray).size = s.length := by simp [ByteArray.size]
      have hix : Extern.BytealgIndexByte.indexByte #[.string ⟨s.toArray⟩, .int .u8 (Int.ofNat c)] =
          (match (List.range s.length).find? (fun i => (⟨s.toArray⟩ : ByteArray)[i]! == (Int.ofNat c).toNat.toUInt8) with | some i => pure (goInt i) | none => pure (goInt (-1)) : Sem Value) := rfl
      unfold callFunc
      simp only [Sem.run_bind, program, Sem.run, Result.andThen_ok, hf, hnm, hb, Option.isNone_none, if_true, Bool.false_eq_true, if_false, mark, hfn, hff, hix, List.range_eq_range']
      rw [hfb]
      cases List.find? (fun j => (⟨s.toArray⟩ : ByteArray)[j]! == (Int.ofNat c).toNat.toUInt8) (List.range' 0 s.length) with
      | none => rfl
      | some j => rfl
  · trivial

end
end Go.Ab
