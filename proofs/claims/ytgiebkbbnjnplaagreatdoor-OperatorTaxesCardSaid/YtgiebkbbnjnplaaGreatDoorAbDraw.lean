/- Regions that draw their order: what an operation looks at. -/
import Derived.Test.YtgiebkbbnjnplaaGreatDoorAbCall4
import Derived.Orders
namespace Go.Ab

theorem evs_congr {ts ts' : Tmps} : ∀ (xs : List Opd), (∀ x ∈ xs, x.ev ts = x.ev ts') → evs xs ts = evs xs ts'
  | [], _ => rfl
  | x :: xs, h => by
    show x.ev ts :: evs xs ts = x.ev ts' :: evs xs ts'
    rw [h x (by simp), evs_congr xs (fun y hy => h y (by simp [hy]))]

theorem fillA_congr {ts ts' : Tmps} : ∀ (ps : List ((Nat × Nat) × Opd)), (∀ x ∈ ps.map (·.2), x.ev ts = x.ev ts') → ∀ cs, fillA ps ts cs = fillA ps ts' cs
  | [], _, _ => rfl
  | p :: ps, h, cs => by
    have ih := fillA_congr ps (fun y hy => h y (by simp at hy ⊢; right; exact hy))
    show (Bool.casesOn (Nat.beq (len (p.2.ev ts).cells) p.1.2) none (Option.casesOn (overAt? cs (p.2.ev ts).cells p.1.1) none (fun x => fillA ps ts x)) : Option (List AVal)) =
      (Bool.casesOn (Nat.beq (len (p.2.ev ts').cells) p.1.2) none (Option.casesOn (overAt? cs (p.2.ev ts').cells p.1.1) none (fun x => fillA ps ts' x)) : Option (List AVal))
    rw [h p.2 (by simp)]
    have : (fun x => fillA ps ts x) = (fun x => fillA ps ts' x) := funext ih
    rw [this]

theorem optEv_congr {ts ts' : Tmps} (x : Option Opd) (h : ∀ y ∈ ol x, y.ev ts = y.ev ts') : optEv x ts = optEv x ts' := by
  cases x with
  | none => rfl
  | some x => show some _ = some _; rw [h x (by simp [ol])]

/-- An operation asks of the temporaries only its operands. -/
theorem evOp_congr {ts ts' : Tmps} (o : AOp) (call : CallFn) (σ : Heap) (h : ∀ x ∈ o.opds, x.ev ts = x.ev ts') : evOp o call ts σ = evOp o call ts' σ := by
  cases o <;> simp only [AOp.opds, List.mem_cons, List.not_mem_nil, or_false, forall_eq_or_imp, forall_eq, List.mem_append] at h
  case build z ps => show oBuild z ps ts σ = oBuild z ps ts' σ; unfold oBuild; rw [fillA_congr ps h]
  case buildSlice z e l ps => show oBuildSlice z e l ps ts σ = oBuildSlice z e l ps ts' σ; unfold oBuildSlice; rw [fillA_congr ps h]
  case mkFunc f cs => show oMkFunc f cs ts σ = oMkFunc f cs ts' σ; unfold oMkFunc; rw [evs_congr cs h]
  case slice e x a b c =>
    show oSlice e x a b c ts σ = oSlice e x a b c ts' σ
    unfold oSlice
    rw [h.1, optEv_congr a (fun y hy => h.2 y (.inl (.inl hy))), optEv_congr b (fun y hy => h.2 y (.inl (.inr hy))), optEv_congr c (fun y hy => h.2 y (.inr hy))]
  case sliceArr n e x a b =>
    show oSliceArr n e x a b ts σ = oSliceArr n e x a b ts' σ
    unfold oSliceArr
    rw [h.1, optEv_congr a (fun y hy => h.2 y (.inl hy)), optEv_congr b (fun y hy => h.2 y (.inr hy))]
  case sliceStr x a b =>
    show oSliceStr x a b ts σ = oSliceStr x a b ts' σ
    unfold oSliceStr
    rw [h.1, optEv_congr a (fun y hy => h.2 y (.inl hy)), optEv_congr b (fun y hy => h.2 y (.inr hy))]
  case call f xs => show oCall f xs call ts σ = oCall f xs call ts' σ; unfold oCall; rw [evs_congr xs h]
  case callDyn f xs => show oCallDyn f xs call ts σ = oCallDyn f xs call ts' σ; unfold oCallDyn; rw [h.1, evs_congr xs h.2]
  case deferFn f xs => show oDefer f xs ts σ = oDefer f xs ts' σ; unfold oDefer; rw [h.1, evs_congr xs h.2]
  all_goals first
    | rfl
    | (simp only [evOp, oMove, oPick, oBox, oLoad, oStore, oNilCheck, oBin, oEqCells, oEqBool, oEqNil, oEqPtr, oUn, oConvInt, oConvId, oBytesOf, oTextOf, oMkIface, oMkSlice, oFieldAddr, oField, oIndexAddr, oIndexArr, oIndex, oIndexStr,
        oLookup, oMapUpdate, oExtract, oAppend, oCopy, oLen, oLenStr, oLenMap, oCap, oMin, oMax, oDelete, oPanic, oRangeStr, oNextStr, oIndexByte, h]; done)

end Go.Ab
