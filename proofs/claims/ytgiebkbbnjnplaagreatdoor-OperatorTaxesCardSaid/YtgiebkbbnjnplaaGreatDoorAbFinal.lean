/- For every amount lotterylaw52.OperatorTaxes returns true, and its argument reads behind the call as it read before. Conditions: the package variables calendar.monthDays, ruletext.dayNames and ticketno.weights begin as the program's text lays them (the card ties them to it); bytealg.MaxLen holds any value. -/
import Derived.Test.YtgiebkbbnjnplaaGreatDoorAbClaim
import Derived.Test.YtgiebkbbnjnplaaGreatDoorAbJoined
import Derived.Test.YtgiebkbbnjnplaaGreatDoorTie
import Derived.Test.YtgiebkbbnjnplaaGreatDoorCards
import Derived.ProofKit
import Derived.LaidMore
import Derived.OpenShut
import Derived.Stop.Joined
import Derived.SevenTiedAt
namespace Go.Proofs.YtgiebkbbnjnplaaGreatDoor
open Go.ChangeShapes Go.WideShapes Go.ChangeAt Go.WideMaps Go.WideElems Go.RowKit

theorem own : ownKnob Tryz.prog.godebug = none := by kernel_rfl
theorem u4 : Tryz.prog.underlying 4 = some .bool := by kernel_rfl

/-- The door's own heap meets the condition. -/
theorem door_met (os : Os) (args : Array Value) : laidMetH Tryz.prog laidL ((World.doorLaid Tryz.prog 400 os).forCall (fun _ _ => 0) ⟨#[], args, []⟩).memory :=
  laidMetH_of_parts3 (fuel := 8) (laidMet_of_run' 8 (by kernel_rfl) (by kernel_rfl)) (by kernel_rfl) (by kernel_rfl)

theorem keptBut_of {W W' : World} (hb : ∀ q, q < W.heap.size → W'.heap[q]? = W.heap[q]?) (ho : W'.os = W.os) (hp : W'.output = W.output) (may : MemPlace → Prop) : W.keptBut W' may := by
  refine ⟨ho, hp, fun i hi => ?_⟩
  rw [hb i hi]
  exact (World.keptBut_refl W may).2.2 i hi

set_option maxRecDepth 100000 in
theorem lifted (os : Os) (started : os.Started) (H : Type) (enc : TypeId × Value → H) :
    ReturnsInHanded {} Tryz.checked os 3 .any (fun w args => (Rows.operatorTaxesSpec.pre enc Tryz.prog Tryz.f3 [] false w args ∧ laidMetH Tryz.prog laidL w) ∧ sizedMet enc Tryz.prog Tryz.f3 (OpenSpec.ofChange Rows.operatorTaxesSpec) false w args)
      (Rows.operatorTaxesSpec.post enc Tryz.prog Tryz.f3 false true false false) := by
  refine returnsInHanded_of_change_and (C := Tryz.checked) (X := fun w _ => laidMetH Tryz.prog laidL w) (fun _ _ _ hh h => h.of_heap hh) own started (by kernel_rfl) Tryz.func3
    (ChangeSpec.witness_shaped (enc := enc) (C := Tryz.checked) (os := os) (X := fun w _ => laidMetH Tryz.prog laidL w) false (World.doorLaid Tryz.prog 400 os) #[.int .i64 0] 8 rfl (World.shaped_of_RefB (by kernel_rfl) (by kernel_rfl)) (by kernel_rfl) (by kernel_rfl) (by kernel_rfl) (door_met os _)) ?_
  intro W base args ds gs before hval0 hW _ _ hL _
  have hval : ∀ (j : Nat) t v, Tryz.f3.params[j]? = some t → args[j]? = some v → Value.okWide Tryz.prog W .any base t v := hval0
  have hW' := hW
  obtain ⟨p, q, hA0, hV, rfl, hfz, hnd⟩ := hW
  have hA : DataW.TrodAll enc Tryz.prog W 0 (fun _ => true) true Tryz.f3.params.toList args.toList ds p := hA0
  rw [Tryz.params3] at hA hval
  obtain ⟨v0, d0, rfl, rfl, h0⟩ := trodAll_one hA
  obtain ⟨rfl, rfl⟩ := trodVars_none hV
  obtain ⟨n, rfl, rfl, rfl, hwf⟩ := open_int u3 (hval 0 3 v0 rfl rfl) h0
  clear hA0 hval0
  simp only [List.append_nil] at hW'
  refine (runs (of_laid hL) n).mono fun e W' ⟨he, hb, ho, hp⟩ => ?_
  subst he
  refine ⟨_, rfl, _, _, _, [], [], [], hW', trodAll_mk1 (shut_bool u4 _), trodAll_mk1 (shut_int u3 hwf), rfl, keptBut_of hb ho hp _, fun h => by cases h⟩

theorem wrapper : Tryz.f3.isWrapper Tryz.pinned.checked.prog Rows.operatorTaxesRow.wrapper Rows.operatorTaxesRow.mainSum := by
  unfold Func.isWrapper
  first | (rw [if_pos (by decide +kernel)]; kernel_rfl) | (rw [if_neg (by decide +kernel)]; exact ⟨rfl, rfl⟩)
theorem instOf : Tryz.f3.isInstance Tryz.pinned.checked.prog Rows.operatorTaxesRow.origin Rows.operatorTaxesRow.targs := of_decide_eq_true (by kernel_rfl)
theorem named3 : Tryz.pinned.checked.prog.funcNamed Rows.operatorTaxesRow.func = some 3 := by kernel_rfl

theorem operatorTaxes_holds : Rows.OperatorTaxesSaid :=
  OpenClaim.holds_of_wide 3 Tryz.f3 rfl rfl rfl rfl rfl rfl rfl ⟨rfl, rfl, rfl, rfl, rfl⟩ rfl rfl rfl rfl rfl named3 Tryz.func3 joined instOf wrapper
    (fun os started H enc _ => lifted os started H enc)

theorem operatorTaxes_card : Rows.OperatorTaxesCardSaid :=
  Claim7.holds_tied_plain_at .later [] [.data, .data, .data] true (true, "329c57431ebc323dbb66b6db11d8cb8100f82bdb348743ea3640dc719ede3dd5") true
    operatorTaxes_holds (fun _ h => by cases h) (by kernel_rfl) (fun _ h => by cases h) operatorTaxes_row_tie rfl ⟨rfl, rfl⟩ (by kernel_rfl) rfl
    (fun f fn hf hfn => by
      obtain rfl : f = 3 := Option.some.inj ((show Tryz.prog.funcNamed "lottery/lotterylaw52.OperatorTaxes" = some 3 by kernel_rfl).symm.trans hf) |>.symm
      obtain rfl : fn = Tryz.f3 := (Option.some.inj (Tryz.func3.symm.trans hfn)).symm
      exact ⟨by kernel_rfl, fun j t ht => by
        rw [Tryz.params3] at ht
        have h3 : t = 3 := by
          rcases j with _ | j
          · simpa using ht.symm
          · simp at ht
        subst h3
        exact (show Tryz.prog.wantsStandIn 3 = false by kernel_rfl)⟩)
    (by kernel_rfl)
#print axioms operatorTaxes_card
end Go.Proofs.YtgiebkbbnjnplaaGreatDoor
