/- OperatorTaxes returns true, whatever the amount. -/
import Derived.Test.YtgiebkbbnjnplaaGreatDoorAbLaid
import Derived.Test.YtgiebkbbnjnplaaGreatDoorAbTblOk
import Derived.Test.YtgiebkbbnjnplaaGreatDoorAbTax3
import Derived.Test.YtgiebkbbnjnplaaGreatDoorAbWorks
import Derived.ProofKit
import Derived.SizedLaws
import Derived.Handed
namespace Go.Proofs.YtgiebkbbnjnplaaGreatDoor
open Go.ChangeShapes Go.WideShapes Go.ChangeAt Go.WideMaps Go.WideElems Go.RowKit
open Go.Ab

/-! The heap of the listed variables. -/

noncomputable def muG : Mu := fun b => match b with
  | 0 => some ⟨0, 0, 12⟩
  | 1 => some ⟨1, 0, 0⟩
  | 2 => some ⟨2, 0, 13⟩
  | 3 => some ⟨3, 0, 7⟩
  | _ => none

theorem sig0_get (b : Nat) (o : AObj) (h : sig0.get b = some o) : (b = 0 ∧ o = .cells cellsW) ∨ (b = 2 ∧ o = .cells cellsM) ∨ (b = 3 ∧ o = .cells cellsD) := by
  have h' : T.get (T.set (T.set (T.set .leaf 0 (some (.cells cellsW))) 2 (some (.cells cellsM))) 3 (some (.cells cellsD))) b = some o := h
  rw [T.get_set] at h'
  by_cases e3 : b = 3
  · rw [if_pos e3] at h'; cases h'; exact .inr (.inr ⟨e3, rfl⟩)
  rw [if_neg e3, T.get_set] at h'
  by_cases e2 : b = 2
  · rw [if_pos e2] at h'; cases h'; exact .inr (.inl ⟨e2, rfl⟩)
  rw [if_neg e2, T.get_set] at h'
  by_cases e0 : b = 0
  · rw [if_pos e0] at h'; cases h'; exact .inl ⟨e0, rfl⟩
  rw [if_neg e0] at h'
  cases h'

theorem vrels_int (μ : Mu) : ∀ zs : List Int, VRels μ (zs.map fun n => AVal.int .i64 n) (zs.map fun n => Value.int .i64 n)
  | [] => VRels.nil
  | z :: zs => VRels.cons (by simp only [VRel]) (vrels_int μ zs)
theorem vrels_str (μ : Mu) : ∀ zs : List (List UInt8), VRels μ (zs.map AVal.str) (zs.map fun s => Value.string ⟨s.toArray⟩)
  | [] => VRels.nil
  | z :: zs => VRels.cons (by simp only [VRel]) (vrels_str μ zs)
/-- Integers and texts stand for one value each. -/
theorem vrels_int_eq {μ : Mu} : ∀ {zs : List Int} {vs : List Value}, VRels μ (zs.map fun n => AVal.int .i64 n) vs → vs = zs.map fun n => Value.int .i64 n
  | [], vs, h => by simpa only [List.map_nil, VRels] using h
  | z :: zs, vs, h => by
    simp only [List.map_cons, VRels, VRel] at h
    obtain ⟨x, xs, rfl, rfl, h⟩ := h
    rw [vrels_int_eq h, List.map_cons]
theorem vrels_str_eq {μ : Mu} : ∀ {zs : List (List UInt8)} {vs : List Value}, VRels μ (zs.map AVal.str) vs → vs = zs.map fun s => Value.string ⟨s.toArray⟩
  | [], vs, h => by simpa only [List.map_nil, VRels] using h
  | z :: zs, vs, h => by
    simp only [List.map_cons, VRels, VRel] at h
    obtain ⟨x, xs, rfl, rfl, h⟩ := h
    rw [vrels_str_eq h, List.map_cons]

theorem relG {W : World} (h : LaidIn W) : Rel muG sig0 W := by
  obtain ⟨⟨tw, hw⟩, ⟨tm, hm⟩, ⟨td, hd⟩⟩ := h
  refine ⟨?_, ?_, ?_⟩
  · intro b hb
    have hb' : 4 ≤ b := hb
    match b, hb' with
    | b + 4, _ => rfl
  · intro b o ho
    rcases sig0_get b o ho with ⟨rfl, rfl⟩ | ⟨rfl, rfl⟩ | ⟨rfl, rfl⟩
    · refine ⟨_, rfl, valsW.toArray, tw, 0, 0, hw, by simp [valsW], by simp [cellsW], ?_, ?_, .inl (Nat.le_refl 0)⟩
      · have := vrels_int muG [15, 50, 5, 49, 34, 81, 76, 27, 90, 9, 30, 3]
        simpa [valsW, cellsW] using this
      · intro a ha
        simp only [cellsW, List.mem_map] at ha
        obtain ⟨n, _, rfl⟩ := ha
        rfl
    · refine ⟨_, rfl, valsM.toArray, tm, 0, 0, hm, by simp [valsM], by simp [cellsM], ?_, ?_, .inl (Nat.le_refl 0)⟩
      · have := vrels_int muG [0, 31, 28, 31, 30, 31, 30, 31, 31, 30, 31, 30, 31]
        simpa [valsM, cellsM] using this
      · intro a ha
        simp only [cellsM, List.mem_map] at ha
        obtain ⟨n, _, rfl⟩ := ha
        rfl
    · refine ⟨_, rfl, valsD.toArray, td, 0, 0, hd, by simp [valsD], by simp [cellsD], ?_, ?_, .inl (Nat.le_refl 0)⟩
      · have := vrels_str muG [[109, 111, 110], [116, 117, 101], [119, 101, 100], [116, 104, 117], [102, 114, 105], [115, 97, 116], [115, 117, 110]]
        simpa [valsD, cellsD] using this
      · intro a ha
        simp only [cellsD, List.mem_map] at ha
        obtain ⟨n, _, rfl⟩ := ha
        rfl
  · intro b1 b2 o1 o2 m1 m2 h1 h2 e1 e2 e3
    rcases sig0_get b1 o1 h1 with ⟨rfl, _⟩ | ⟨rfl, _⟩ | ⟨rfl, _⟩ <;> rcases sig0_get b2 o2 h2 with ⟨rfl, _⟩ | ⟨rfl, _⟩ | ⟨rfl, _⟩ <;> cases e1 <;> cases e2 <;> first | rfl | cases e3

theorem gsize : Tryz.prog.globals.size = 4 := by kernel_rfl
theorem gRel : GRel Tryz.prog muG := by
  intro g hg
  rw [gsize] at hg
  match g, hg with
  | 0, _ => exact ⟨12, rfl⟩
  | 1, _ => exact ⟨0, rfl⟩
  | 2, _ => exact ⟨13, rfl⟩
  | 3, _ => exact ⟨7, rfl⟩

/-! The run. -/

theorem cellsIs_eq {σ : Heap} {b : Nat} {cs : List AVal} (h : cellsIs σ b cs = true) : σ.get b = some (.cells cs) := by
  unfold cellsIs at h
  split at h
  · rename_i c hc
    rw [hc, AVal.beqs_eq c cs h]
  · cases h

theorem works_of {o : Out} (h : chkAll o = true) : ∃ σ', o = .val (.bool true) σ' ∧ sig0.next ≤ σ'.next ∧ σ'.get 0 = some (.cells cellsW) ∧ σ'.get 2 = some (.cells cellsM) ∧ σ'.get 3 = some (.cells cellsD) := by
  cases o with
  | val u σ =>
    simp only [chkAll, Bool.and_eq_true] at h
    obtain ⟨h1, h2, h3, h4, h5⟩ := h
    exact ⟨σ, by rw [AVal.beq_eq _ _ h1], Nat.le_of_ble_eq_true h2, cellsIs_eq h3, cellsIs_eq h4, cellsIs_eq h5⟩
  | _ => cases h

/-- A block of cells whose cells stand for the same values is as it was. -/
theorem block_same {W W' : World} {μ' : Mu} {g room : Nat} {cs : List AVal} {vs : List Value} {t : TypeId} (hk : KindKept W W') (hW : W.heap[g]? = some (.cells vs.toArray t (0, 0))) (hlen : vs.length = cs.length)
    (ho : ORel μ' W' ⟨g, 0, room⟩ (.cells cs)) (huniq : ∀ us, VRels μ' cs us → us = vs) : W'.heap[g]? = W.heap[g]? := by
  obtain ⟨c', h1, h2⟩ := hk g _ _ _ hW
  obtain ⟨c, e, lo, hi, g1, g2, g3, g4, _⟩ := ho
  rw [h1] at g1
  cases g1
  have := huniq _ g4
  have hc : c'.toList = vs := by
    rw [← this]
    simp only [List.drop_zero]
    rw [List.take_of_length_le]
    have : c'.toList.length = vs.length := by simpa using h2
    omega
  rw [h1, hW, ← hc]

/-- A call that leaves the listed variables as they are. -/
theorem runs_of {call : CallFn} (hc : CallOk Tryz.prog call) {f : FuncId} {n : Int} {σ' : Heap} (hrun : call f [.int .i64 n] sig0 = .val (.bool true) σ') (w0 : σ'.get 0 = some (.cells cellsW)) (w2 : σ'.get 2 = some (.cells cellsM)) (w3 : σ'.get 3 = some (.cells cellsD))
    {W : World} (hL : LaidIn W) : Calls Tryz.prog f #[.int .i64 n] W fun e W' => e = .returned (.bool true) ∧ (∀ q, q < W.heap.size → W'.heap[q]? = W.heap[q]?) ∧ W'.os = W.os ∧ W'.output = W.output := by
  have hok := hc f [.int .i64 n] sig0
  rw [hrun] at hok
  obtain ⟨_, hcalls⟩ := hok
  refine (hcalls muG W #[.int .i64 n] (relG hL) gRel (VRels.one (by simp only [VRel]))).mono ?_
  rintro e W' ⟨v, μ', rfl, r', x', hv⟩
  simp only [VRel] at hv
  subst hv
  refine ⟨rfl, ?_, x'.os, x'.output⟩
  obtain ⟨⟨tw, hw'⟩, ⟨tm, hm'⟩, ⟨td, hd'⟩⟩ := hL
  have at0 : ∀ b cs, σ'.get b = some (.cells cs) → ∀ m, muG b = some m → ORel μ' W' m (.cells cs) := by
    intro b cs hb m hm
    obtain ⟨m', e1, e2⟩ := r'.objs b _ hb
    rw [x'.mono b m hm] at e1
    cases e1
    exact e2
  intro q hq
  by_cases q0 : q = 0
  · subst q0
    exact block_same x'.kind hw' (by simp [valsW, cellsW]) (at0 0 _ w0 _ rfl) (fun us h => vrels_int_eq h)
  by_cases q2 : q = 2
  · subst q2
    exact block_same x'.kind hm' (by simp [valsM, cellsM]) (at0 2 _ w2 _ rfl) (fun us h => vrels_int_eq h)
  by_cases q3 : q = 3
  · subst q3
    exact block_same x'.kind hd' (by simp [valsD, cellsD]) (at0 3 _ w3 _ rfl) (fun us h => vrels_str_eq h)
  refine x'.frame q hq ?_
  intro b o m hb hm
  rcases sig0_get b o hb with ⟨rfl, _⟩ | ⟨rfl, _⟩ | ⟨rfl, _⟩ <;> cases hm
  · exact fun e => q0 e.symm
  · exact fun e => q2 e.symm
  · exact fun e => q3 e.symm

theorem runs_at {R m : Nat} {n : Int} {σ' : Heap} (h : evCall fnTab R m 3 [.int .i64 n] sig0 = .val (.bool true) σ') (w0 : σ'.get 0 = some (.cells cellsW)) (w2 : σ'.get 2 = some (.cells cellsM)) (w3 : σ'.get 3 = some (.cells cellsD))
    {W : World} (hL : LaidIn W) : Calls Tryz.prog 3 #[.int .i64 n] W fun e W' => e = .returned (.bool true) ∧ (∀ q, q < W.heap.size → W'.heap[q]? = W.heap[q]?) ∧ W'.os = W.os ∧ W'.output = W.output :=
  runs_of (evTryz R m) h w0 w2 w3 hL

/-- OperatorTaxes, whatever the amount: it returns true, and the world's old blocks are as they were. -/
theorem runs {W : World} (hL : LaidIn W) (n : Int) : Calls Tryz.prog 3 #[.int .i64 n] W fun e W' => e = .returned (.bool true) ∧ (∀ q, q < W.heap.size → W'.heap[q]? = W.heap[q]?) ∧ W'.os = W.os ∧ W'.output = W.output := by
  obtain ⟨σ', hw, hn, w0, w2, w3⟩ := works_of works_run
  exact runs_at (e3 n hw hn) w0 w2 w3 hL

end Go.Proofs.YtgiebkbbnjnplaaGreatDoor
