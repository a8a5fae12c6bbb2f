/- Tax, for the brackets of the operator, whatever the amount. -/
import Derived.Test.YtgiebkbbnjnplaaGreatDoorAbTax
import Derived.Test.YtgiebkbbnjnplaaGreatDoorAbSig
import Derived.Test.YtgiebkbbnjnplaaGreatDoorAbDraw2
namespace Go.Proofs
open Go.Ab Go

noncomputable def chkV (v : AVal) (o : Out) : Bool :=
  match o with
  | .val u _ => AVal.beq u v
  | _ => false
theorem of_chkV {v : AVal} {o : Out} (h : chkV v o = true) : o = .val v (outHeap o) := by
  cases o with
  | val u σ => rw [AVal.beq_eq u v h]; rfl
  | _ => cases h
theorem e10 : evCall fnTab 100000 198 10 [slc] sig1 = .val (.int .i64 0) sig2 := of_chkV (by kernel_rfl)
theorem sig2_next : sig1.next ≤ sig2.next := Nat.le_of_ble_eq_true (by kernel_rfl)
theorem e5 : evCall fnTab 100000 199 5 [] sig0 = .val slc sig1 := by kernel_rfl

noncomputable def idxV (e : Nat) (x i : AVal) (σ : Heap) : Out :=
  match x, i with
  | .slice (some (b, o)) ln _ _ esz', .int _ (.ofNat i) => Bool.casesOn (Nat.beq esz' e && Nat.ble (Nat.succ i) ln) .fail (.val (.ptr (some (b, Nat.add o (Nat.mul i e)))) σ)
  | _, _ => .fail
theorem sy_idx (call : CallFn) (e : Nat) (x i : Opd) (u : Tmps) (σ : Heap) : evOp (.indexAddr e x i) call u σ = idxV e (x.ev u) (i.ev u) σ := rfl
theorem sy_idx0 (σ : Heap) : idxV 2 slc (.int .i64 0) σ = .val (.ptr (some (4, 0))) σ := rfl
theorem sy_idx1 (σ : Heap) : idxV 2 slc (.int .i64 1) σ = .val (.ptr (some (4, 2))) σ := rfl
theorem sy_idx2 (σ : Heap) : idxV 2 slc (.int .i64 2) σ = .val (.ptr (some (4, 4))) σ := rfl
theorem fa00 (σ : Heap) : faV 0 (.ptr (some (4, 0))) σ = .val (.ptr (some (4, 0))) σ := rfl
theorem fa01 (σ : Heap) : faV 1 (.ptr (some (4, 0))) σ = .val (.ptr (some (4, 1))) σ := rfl
theorem fa20 (σ : Heap) : faV 0 (.ptr (some (4, 2))) σ = .val (.ptr (some (4, 2))) σ := rfl
theorem fa21 (σ : Heap) : faV 1 (.ptr (some (4, 2))) σ = .val (.ptr (some (4, 3))) σ := rfl
theorem fa40 (σ : Heap) : faV 0 (.ptr (some (4, 4))) σ = .val (.ptr (some (4, 4))) σ := rfl
theorem fa41 (σ : Heap) : faV 1 (.ptr (some (4, 4))) σ = .val (.ptr (some (4, 5))) σ := rfl
theorem sl3 (σ : Heap) : lenV slc σ = .val (.int .i64 3) σ := rfl
theorem l0 : loadAt sig2 none (.ptr (some (4, 0))) = some (.int .i64 0) := by kernel_rfl
theorem l1 : loadAt sig2 none (.ptr (some (4, 1))) = some (.int .i64 0) := by kernel_rfl
theorem l2 : loadAt sig2 none (.ptr (some (4, 2))) = some (.int .i64 100000) := by kernel_rfl
theorem l3 : loadAt sig2 none (.ptr (some (4, 3))) = some (.int .i64 1000) := by kernel_rfl
theorem l4 : loadAt sig2 none (.ptr (some (4, 4))) = some (.int .i64 1000000) := by kernel_rfl
theorem l5 : loadAt sig2 none (.ptr (some (4, 5))) = some (.int .i64 2000) := by kernel_rfl
theorem w01 : wrapK .i64 (0 + 1) = 1 := rfl
theorem w11 : wrapK .i64 (1 + 1) = 2 := rfl
theorem w21 : wrapK .i64 (2 + 1) = 3 := rfl

theorem e6_bad (n : Int) (h : n < 0 ∨ 1000000000000 < n) : evCall fnTab 100000 199 6 [slc, .int .i64 n] sig1 = .val (.tuple [.int .i64 0, .int .i64 2]) sig2 := by
  have v : evCall fnTab 100000 198 11 [.int .i64 n] sig2 = .val (.bool false) sig2 := by
    rw [show evCall fnTab 100000 198 11 [.int .i64 n] sig2 = _ from e11 100000 197 n sig2]
    congr 2
    rw [Bool.and_eq_false_iff, decide_eq_false_iff_not, decide_eq_false_iff_not]
    omega
  apply call_of (m := 198) tab6 rfl
  case hb =>
    show evCode _ _ a6.body ⟨S [(1, .int .i64 n), (0, slc)], []⟩ sig1 = _
    apply cy_seq (R := 100000)
    · (apply cy_ops (R := 100000); simp only [sy_nil, sy_mov, sy_const]; rfl)
    · apply cy_seq (R := 100000)
      · apply cy_seq (R := 100000)
        · (apply cy_ops (R := 100000); simp only [sy_nil, sy_mov, sy_exec, sy_val, sy_tmp, sy_call, sy_evs0, sy_evs1, S_same, S_ne, Nat.reduceLT, Nat.reduceEqDiff, ne_eq, not_false_eq_true, e10]; rfl)
        · apply cy_seq (R := 100000)
          · (apply cy_ops (R := 100000); simp only [sy_nil, sy_mov, sy_exec, sy_val, sy_tmp, sy_const, sy_of, sy_bin, sy_neq, sy_intEq, S_same, Bool.not_true, Nat.reduceLT, decide_true]; rfl)
          · apply cy_false (R := 100000)
            · (simp only [sy_tmp, S_same, Nat.reduceLT])
            · exact cy_skip
      · apply cy_seq_ret (R := 100000)
        apply cy_seq (R := 100000)
        · (apply cy_ops (R := 100000); simp only [sy_nil, sy_mov, sy_exec, sy_val, sy_tmp, sy_of, sy_call, sy_evs0, sy_evs1, sy_not, sy_notB, S_same, S_ne, Bool.not_false, Nat.reduceLT, Nat.reduceEqDiff, ne_eq, not_false_eq_true, v]; rfl)
        · apply cy_true (R := 100000)
          · (simp only [sy_tmp, S_same, Nat.reduceLT])
          · apply cy_seq (R := 100000)
            · (apply cy_ops (R := 100000); simp only [sy_nil, sy_mov, sy_const]; rfl)
            · exact cy_ret
  case hr =>
    show resultsA [.tmp 4, .tmp 5] _ _ = _
    (simp only [res2, S_same, S_ne, Nat.reduceLT, Nat.reduceEqDiff, ne_eq, not_false_eq_true])
  case hn => exact sig2_next

theorem e6_A (n : Int) (h0 : 0 ≤ n) (h1 : n ≤ 0) : evCall fnTab 100000 199 6 [slc, .int .i64 n] sig1 = .val (.tuple [.int .i64 (0), .int .i64 0]) sig2 := by
  have h9 : n ≤ 1000000000000 := by omega
  have v : evCall fnTab 100000 198 11 [.int .i64 n] sig2 = .val (.bool (decide (0 ≤ n) && decide (n ≤ 1000000000000))) sig2 := e11 100000 197 n sig2
  apply call_of (m := 198) tab6 rfl
  case hb =>
    show evCode _ _ a6.body ⟨S [(1, .int .i64 n), (0, slc)], []⟩ sig1 = _
    apply cy_seq (R := 100000)
    · (apply cy_ops (R := 100000); simp only [sy_nil, sy_mov, sy_const]; rfl)
    · apply cy_seq (R := 100000)
      · apply cy_seq (R := 100000)
        · (apply cy_ops (R := 100000); simp only [sy_nil, sy_mov, sy_exec, sy_val, sy_tmp, sy_call, sy_evs0, sy_evs1, S_same, S_ne, Nat.reduceLT, Nat.reduceEqDiff, ne_eq, not_false_eq_true, e10]; rfl)
        · apply cy_seq (R := 100000)
          · (apply cy_ops (R := 100000); simp only [sy_nil, sy_mov, sy_exec, sy_val, sy_tmp, sy_const, sy_of, sy_bin, sy_neq, sy_intEq, S_same, Bool.not_true, Nat.reduceLT, decide_true]; rfl)
          · apply cy_false (R := 100000)
            · (simp only [sy_tmp, S_same, Nat.reduceLT])
            · exact cy_skip
      · apply cy_seq (R := 100000)
        · apply cy_seq (R := 100000)
          · (apply cy_ops (R := 100000); simp only [sy_nil, sy_mov, sy_exec, sy_val, sy_tmp, sy_of, sy_call, sy_evs0, sy_evs1, sy_not, sy_notB, S_same, S_ne, Bool.not_true, Bool.and_true, Nat.reduceLT, Nat.reduceEqDiff, ne_eq, not_false_eq_true, decide_true, v, h0, h9]; rfl)
          · apply cy_false (R := 100000)
            · (simp only [sy_tmp, S_same, Nat.reduceLT])
            · exact cy_skip
        · apply cy_seq (R := 100000)
          · (apply cy_ops (R := 100000); simp only [sy_nil, sy_mov, sy_const]; rfl)
          · apply cy_seq (R := 100000)
            · apply cy_seq (R := 100000)
              · (apply cy_ops (R := 100000); simp only [sy_nil, sy_mov, sy_exec, sy_val, sy_tmp, sy_const, sy_len, S_same, S_ne, Nat.reduceLT, Nat.reduceEqDiff, ne_eq, not_false_eq_true, sl3]; rfl)
              · apply cy_block_exit (R := 100000)
                apply cy_loop (R := 100000)
                apply cy_round_exit (R := 100000)
                apply cy_seq (R := 100000)
                · (apply cy_ops (R := 100000); simp only [sy_nil, sy_exec, sy_val, sy_tmp, sy_of, sy_bin, sy_lss, sy_intLe, S_same, S_ne, Bool.not_false, Nat.reduceLT, Nat.reduceEqDiff, Int.reduceLE, ne_eq, not_false_eq_true, decide_false]; rfl)
                · apply cy_seq (R := 100000)
                  · apply cy_true (R := 100000)
                    · (simp only [sy_tmp, S_same, Nat.reduceLT])
                    · exact cy_skip
                  · apply cy_seq_exit (R := 100000)
                    apply cy_block_other (R := 100000) rfl
                    apply cy_seq (R := 100000)
                    · (apply cy_ops (R := 100000); simp only [sy_nil, sy_mov, sy_tmp, S_same, S_ne, Nat.reduceLT, Nat.reduceEqDiff, ne_eq, not_false_eq_true]; rfl)
                    · apply cy_seq_exit (R := 100000)
                      apply cy_seq (R := 100000)
                      · (apply cy_ops (R := 100000); simp only [sy_nil, sy_mov, sy_exec, sy_val, sy_tmp, sy_of, sy_bin, sy_geq, sy_load, sy_faddr, sy_intLe, S_same, S_ne, Nat.reduceLT, Nat.reduceEqDiff, ne_eq, not_false_eq_true, sy_idx, sy_idx0, fa00, l0]; rfl)
                      · apply cy_true (R := 100000)
                        · (simp only [sy_tmp, S_same, Nat.reduceLT, decide_true, h1])
                        · exact cy_exit
            · apply cy_seq (R := 100000)
              · (apply cy_ops (R := 100000); simp only [sy_nil, sy_mov, sy_tmp, sy_const, S_same, S_ne, Nat.reduceLT, Nat.reduceEqDiff, ne_eq, not_false_eq_true]; rfl)
              · exact cy_ret
  case hr =>
    show resultsA [.tmp 4, .tmp 5] _ _ = _
    (simp only [res2, S_same, S_ne, Nat.reduceLT, Nat.reduceEqDiff, ne_eq, not_false_eq_true])
  case hn => exact sig2_next

theorem e6_B (n : Int) (h0 : 0 < n) (h1 : n ≤ 100000) : evCall fnTab 100000 199 6 [slc, .int .i64 n] sig1 = .val (.tuple [.int .i64 (0), .int .i64 0]) sig2 := by
  have h9 : n ≤ 1000000000000 := by omega
  have g0 : (n ≤ 0) = False := by simp; omega
  have h0' : (0 ≤ n) = True := by simp; omega
  have m0 : min n 100000 = n := Int.min_eq_left h1
  have s0 : wrapK .i64 (n - 0) = n := by rw [Int.sub_zero]; exact wrap64 (by omega) (by omega)
  have p0 : evCall fnTab 100000 198 12 [.int .i64 n, .int .i64 0] sig2 = .val (.tuple [.int .i64 0, .int .i64 0]) sig2 := by
    rw [show evCall fnTab 100000 198 12 [.int .i64 n, .int .i64 0] sig2 = _ from e12 100000 196 n 0 sig2 (by omega) (by omega) (by omega) (by omega) (by rw [Int.mul_zero]; rfl) (by rw [Int.mul_zero]; rfl), Int.mul_zero]
    rfl
  have z0 : wrapK .i64 (0 + 0) = 0 := rfl
  have v : evCall fnTab 100000 198 11 [.int .i64 n] sig2 = .val (.bool (decide (0 ≤ n) && decide (n ≤ 1000000000000))) sig2 := e11 100000 197 n sig2
  apply call_of (m := 198) tab6 rfl
  case hb =>
    show evCode _ _ a6.body ⟨S [(1, .int .i64 n), (0, slc)], []⟩ sig1 = _
    apply cy_seq (R := 100000)
    · (apply cy_ops (R := 100000); simp only [sy_nil, sy_mov, sy_const]; rfl)
    · apply cy_seq (R := 100000)
      · apply cy_seq (R := 100000)
        · (apply cy_ops (R := 100000); simp only [sy_nil, sy_mov, sy_exec, sy_val, sy_tmp, sy_call, sy_evs0, sy_evs1, S_same, S_ne, Nat.reduceLT, Nat.reduceEqDiff, ne_eq, not_false_eq_true, e10]; rfl)
        · apply cy_seq (R := 100000)
          · (apply cy_ops (R := 100000); simp only [sy_nil, sy_mov, sy_exec, sy_val, sy_tmp, sy_const, sy_of, sy_bin, sy_neq, sy_intEq, S_same, Bool.not_true, Nat.reduceLT, decide_true]; rfl)
          · apply cy_false (R := 100000)
            · (simp only [sy_tmp, S_same, Nat.reduceLT])
            · exact cy_skip
      · apply cy_seq (R := 100000)
        · apply cy_seq (R := 100000)
          · (apply cy_ops (R := 100000); simp only [sy_nil, sy_mov, sy_exec, sy_val, sy_tmp, sy_of, sy_call, sy_evs0, sy_evs1, sy_not, sy_notB, S_same, S_ne, Bool.not_true, Bool.and_true, Nat.reduceLT, Nat.reduceEqDiff, ne_eq, not_false_eq_true, decide_true, v, h0', h9]; rfl)
          · apply cy_false (R := 100000)
            · (simp only [sy_tmp, S_same, Nat.reduceLT])
            · exact cy_skip
        · apply cy_seq (R := 100000)
          · (apply cy_ops (R := 100000); simp only [sy_nil, sy_mov, sy_const]; rfl)
          · apply cy_seq (R := 100000)
            · apply cy_seq (R := 100000)
              · (apply cy_ops (R := 100000); simp only [sy_nil, sy_mov, sy_exec, sy_val, sy_tmp, sy_const, sy_len, S_same, S_ne, Nat.reduceLT, Nat.reduceEqDiff, ne_eq, not_false_eq_true, sl3]; rfl)
              · apply cy_block_exit (R := 100000)
                apply cy_loop (R := 100000)
                apply cy_round (R := 100000)
                · apply cy_seq (R := 100000)
                  · (apply cy_ops (R := 100000); simp only [sy_nil, sy_exec, sy_val, sy_tmp, sy_of, sy_bin, sy_lss, sy_intLe, S_same, S_ne, Bool.not_false, Nat.reduceLT, Nat.reduceEqDiff, Int.reduceLE, ne_eq, not_false_eq_true, decide_false]; rfl)
                  · apply cy_seq (R := 100000)
                    · apply cy_true (R := 100000)
                      · (simp only [sy_tmp, S_same, Nat.reduceLT])
                      · exact cy_skip
                    · apply cy_seq (R := 100000)
                      · apply cy_block (R := 100000)
                        apply cy_seq (R := 100000)
                        · (apply cy_ops (R := 100000); simp only [sy_nil, sy_mov, sy_tmp, S_same, S_ne, Nat.reduceLT, Nat.reduceEqDiff, ne_eq, not_false_eq_true]; rfl)
                        · apply cy_seq (R := 100000)
                          · apply cy_seq (R := 100000)
                            · (apply cy_ops (R := 100000); simp only [sy_nil, sy_mov, sy_exec, sy_val, sy_tmp, sy_of, sy_bin, sy_geq, sy_load, sy_faddr, sy_intLe, S_same, S_ne, Nat.reduceLT, Nat.reduceEqDiff, ne_eq, not_false_eq_true, sy_idx, sy_idx0, fa00, l0]; rfl)
                            · apply cy_false (R := 100000)
                              · (simp only [sy_tmp, S_same, Nat.reduceLT, decide_false, g0])
                              · exact cy_skip
                          · apply cy_seq (R := 100000)
                            · (apply cy_ops (R := 100000); simp only [sy_nil, sy_mov, sy_tmp, S_same, S_ne, Nat.reduceLT, Nat.reduceEqDiff, ne_eq, not_false_eq_true]; rfl)
                            · apply cy_seq (R := 100000)
                              · apply cy_seq (R := 100000)
                                · (apply cy_ops (R := 100000); simp only [sy_nil, sy_mov, sy_exec, sy_val, sy_tmp, sy_const, sy_of, sy_bin, sy_lss, sy_add, sy_len, sy_intLe, S_same, S_ne, Bool.not_false, Nat.reduceLT, Nat.reduceEqDiff, Int.reduceLE, ne_eq, not_false_eq_true, decide_false, sl3, w01]; rfl)
                                · apply cy_true (R := 100000)
                                  · (simp only [sy_tmp, S_same, Nat.reduceLT])
                                  · (apply cy_ops (R := 100000); simp only [sy_nil, sy_mov, sy_exec, sy_val, sy_tmp, sy_const, sy_of, sy_bin, sy_min, sy_add, sy_load, sy_faddr, minV_eq, S_same, S_ne, Nat.reduceLT, Nat.reduceEqDiff, ne_eq, not_false_eq_true, sy_idx, sy_idx1, fa20, l2, w01, m0]; rfl)
                              · apply cy_seq (R := 100000)
                                · (apply cy_ops (R := 100000); simp only [sy_nil, sy_mov, sy_exec, sy_val, sy_tmp, sy_of, sy_bin, sy_call, sy_evs0, sy_evs1, sy_ext, sy_ext0, sy_ext1, sy_sub, sy_load, sy_faddr, S_same, S_ne, Nat.reduceLT, Nat.reduceEqDiff, ne_eq, not_false_eq_true, sy_idx, sy_idx0, fa00, fa01, l0, l1, p0, s0]; rfl)
                                · apply cy_seq (R := 100000)
                                  · apply cy_seq (R := 100000)
                                    · (apply cy_ops (R := 100000); simp only [sy_nil, sy_mov, sy_exec, sy_val, sy_tmp, sy_const, sy_of, sy_bin, sy_neq, sy_intEq, S_same, Bool.not_true, Nat.reduceLT, decide_true]; rfl)
                                    · apply cy_false (R := 100000)
                                      · (simp only [sy_tmp, S_same, Nat.reduceLT])
                                      · exact cy_skip
                                  · (apply cy_ops (R := 100000); simp only [sy_nil, sy_mov, sy_exec, sy_val, sy_tmp, sy_of, sy_bin, sy_add, S_same, S_ne, Nat.reduceLT, Nat.reduceEqDiff, ne_eq, not_false_eq_true, z0]; rfl)
                      · (apply cy_ops (R := 100000); simp only [sy_nil, sy_mov, sy_exec, sy_val, sy_tmp, sy_const, sy_of, sy_bin, sy_add, S_same, S_ne, Nat.reduceLT, Nat.reduceEqDiff, ne_eq, not_false_eq_true, w01]; rfl)
                · skip
                  apply cy_round_exit (R := 100000)
                  apply cy_seq (R := 100000)
                  · (apply cy_ops (R := 100000); simp only [sy_nil, sy_exec, sy_val, sy_tmp, sy_of, sy_bin, sy_lss, sy_intLe, S_same, S_ne, Bool.not_false, Nat.reduceLT, Nat.reduceEqDiff, Int.reduceLE, ne_eq, not_false_eq_true, decide_false]; rfl)
                  · apply cy_seq (R := 100000)
                    · apply cy_true (R := 100000)
                      · (simp only [sy_tmp, S_same, Nat.reduceLT])
                      · exact cy_skip
                    · apply cy_seq_exit (R := 100000)
                      apply cy_block_other (R := 100000) rfl
                      apply cy_seq (R := 100000)
                      · (apply cy_ops (R := 100000); simp only [sy_nil, sy_mov, sy_tmp, S_same, S_ne, Nat.reduceLT, Nat.reduceEqDiff, ne_eq, not_false_eq_true]; rfl)
                      · apply cy_seq_exit (R := 100000)
                        apply cy_seq (R := 100000)
                        · (apply cy_ops (R := 100000); simp only [sy_nil, sy_mov, sy_exec, sy_val, sy_tmp, sy_of, sy_bin, sy_geq, sy_load, sy_faddr, sy_intLe, S_same, S_ne, Nat.reduceLT, Nat.reduceEqDiff, ne_eq, not_false_eq_true, sy_idx, sy_idx1, fa20, l2]; rfl)
                        · apply cy_true (R := 100000)
                          · (simp only [sy_tmp, S_same, Nat.reduceLT, decide_true, h1])
                          · exact cy_exit
            · apply cy_seq (R := 100000)
              · (apply cy_ops (R := 100000); simp only [sy_nil, sy_mov, sy_tmp, sy_const, S_same, S_ne, Nat.reduceLT, Nat.reduceEqDiff, ne_eq, not_false_eq_true]; rfl)
              · exact cy_ret
  case hr =>
    show resultsA [.tmp 4, .tmp 5] _ _ = _
    (simp only [res2, S_same, S_ne, Nat.reduceLT, Nat.reduceEqDiff, ne_eq, not_false_eq_true])
  case hn => exact sig2_next

theorem e6_C (n : Int) (h0 : 100000 < n) (h1 : n ≤ 1000000) : evCall fnTab 100000 199 6 [slc, .int .i64 n] sig1 = .val (.tuple [.int .i64 (Int.tdiv ((n - 100000) * 1000) 10000), .int .i64 0]) sig2 := by
  have h9 : n ≤ 1000000000000 := by omega
  have g0 : (n ≤ 0) = False := by simp; omega
  have g1 : (n ≤ 100000) = False := by simp; omega
  have h0' : (0 ≤ n) = True := by simp; omega
  have m0 : min n 100000 = 100000 := Int.min_eq_right (by omega)
  have m1 : min n 1000000 = n := Int.min_eq_left h1
  have s0 : wrapK .i64 (100000 - 0) = 100000 := rfl
  have s1 : wrapK .i64 (n - 100000) = n - 100000 := wrap64 (by omega) (by omega)
  have hd : 0 ≤ Int.tdiv ((n - 100000) * 1000) 10000 ∧ Int.tdiv ((n - 100000) * 1000) 10000 ≤ 1000000000000 := by rw [Int.tdiv_eq_ediv_of_nonneg (by omega)]; omega
  have p0 : evCall fnTab 100000 198 12 [.int .i64 100000, .int .i64 0] sig2 = .val (.tuple [.int .i64 0, .int .i64 0]) sig2 := e12 100000 196 100000 0 sig2 (by omega) (by omega) (by omega) (by omega) rfl rfl
  have p1 : evCall fnTab 100000 198 12 [.int .i64 (n - 100000), .int .i64 1000] sig2 = .val (.tuple [.int .i64 (Int.tdiv ((n - 100000) * 1000) 10000), .int .i64 0]) sig2 := e12 100000 196 (n - 100000) 1000 sig2 (by omega) (by omega) (by omega) (by omega) (wrap64 (by omega) (by omega)) (wrap64 (by omega) (by omega))
  have z0 : wrapK .i64 (0 + 0) = 0 := rfl
  have z1 : wrapK .i64 (0 + Int.tdiv ((n - 100000) * 1000) 10000) = Int.tdiv ((n - 100000) * 1000) 10000 := by rw [Int.zero_add]; exact wrap64 (by omega) (by omega)
  have v : evCall fnTab 100000 198 11 [.int .i64 n] sig2 = .val (.bool (decide (0 ≤ n) && decide (n ≤ 1000000000000))) sig2 := e11 100000 197 n sig2
  apply call_of (m := 198) tab6 rfl
  case hb =>
    show evCode _ _ a6.body ⟨S [(1, .int .i64 n), (0, slc)], []⟩ sig1 = _
    apply cy_seq (R := 100000)
    · (apply cy_ops (R := 100000); simp only [sy_nil, sy_mov, sy_const]; rfl)
    · apply cy_seq (R := 100000)
      · apply cy_seq (R := 100000)
        · (apply cy_ops (R := 100000); simp only [sy_nil, sy_mov, sy_exec, sy_val, sy_tmp, sy_call, sy_evs0, sy_evs1, S_same, S_ne, Nat.reduceLT, Nat.reduceEqDiff, ne_eq, not_false_eq_true, e10]; rfl)
        · apply cy_seq (R := 100000)
          · (apply cy_ops (R := 100000); simp only [sy_nil, sy_mov, sy_exec, sy_val, sy_tmp, sy_const, sy_of, sy_bin, sy_neq, sy_intEq, S_same, Bool.not_true, Nat.reduceLT, decide_true]; rfl)
          · apply cy_false (R := 100000)
            · (simp only [sy_tmp, S_same, Nat.reduceLT])
            · exact cy_skip
      · apply cy_seq (R := 100000)
        · apply cy_seq (R := 100000)
          · (apply cy_ops (R := 100000); simp only [sy_nil, sy_mov, sy_exec, sy_val, sy_tmp, sy_of, sy_call, sy_evs0, sy_evs1, sy_not, sy_notB, S_same, S_ne, Bool.not_true, Bool.and_true, Nat.reduceLT, Nat.reduceEqDiff, ne_eq, not_false_eq_true, decide_true, v, h0', h9]; rfl)
          · apply cy_false (R := 100000)
            · (simp only [sy_tmp, S_same, Nat.reduceLT])
            · exact cy_skip
        · apply cy_seq (R := 100000)
          · (apply cy_ops (R := 100000); simp only [sy_nil, sy_mov, sy_const]; rfl)
          · apply cy_seq (R := 100000)
            · apply cy_seq (R := 100000)
              · (apply cy_ops (R := 100000); simp only [sy_nil, sy_mov, sy_exec, sy_val, sy_tmp, sy_const, sy_len, S_same, S_ne, Nat.reduceLT, Nat.reduceEqDiff, ne_eq, not_false_eq_true, sl3]; rfl)
              · apply cy_block_exit (R := 100000)
                apply cy_loop (R := 100000)
                apply cy_round (R := 100000)
                · apply cy_seq (R := 100000)
                  · (apply cy_ops (R := 100000); simp only [sy_nil, sy_exec, sy_val, sy_tmp, sy_of, sy_bin, sy_lss, sy_intLe, S_same, S_ne, Bool.not_false, Nat.reduceLT, Nat.reduceEqDiff, Int.reduceLE, ne_eq, not_false_eq_true, decide_false]; rfl)
                  · apply cy_seq (R := 100000)
                    · apply cy_true (R := 100000)
                      · (simp only [sy_tmp, S_same, Nat.reduceLT])
                      · exact cy_skip
                    · apply cy_seq (R := 100000)
                      · apply cy_block (R := 100000)
                        apply cy_seq (R := 100000)
                        · (apply cy_ops (R := 100000); simp only [sy_nil, sy_mov, sy_tmp, S_same, S_ne, Nat.reduceLT, Nat.reduceEqDiff, ne_eq, not_false_eq_true]; rfl)
                        · apply cy_seq (R := 100000)
                          · apply cy_seq (R := 100000)
                            · (apply cy_ops (R := 100000); simp only [sy_nil, sy_mov, sy_exec, sy_val, sy_tmp, sy_of, sy_bin, sy_geq, sy_load, sy_faddr, sy_intLe, S_same, S_ne, Nat.reduceLT, Nat.reduceEqDiff, ne_eq, not_false_eq_true, sy_idx, sy_idx0, fa00, l0]; rfl)
                            · apply cy_false (R := 100000)
                              · (simp only [sy_tmp, S_same, Nat.reduceLT, decide_false, g0])
                              · exact cy_skip
                          · apply cy_seq (R := 100000)
                            · (apply cy_ops (R := 100000); simp only [sy_nil, sy_mov, sy_tmp, S_same, S_ne, Nat.reduceLT, Nat.reduceEqDiff, ne_eq, not_false_eq_true]; rfl)
                            · apply cy_seq (R := 100000)
                              · apply cy_seq (R := 100000)
                                · (apply cy_ops (R := 100000); simp only [sy_nil, sy_mov, sy_exec, sy_val, sy_tmp, sy_const, sy_of, sy_bin, sy_lss, sy_add, sy_len, sy_intLe, S_same, S_ne, Bool.not_false, Nat.reduceLT, Nat.reduceEqDiff, Int.reduceLE, ne_eq, not_false_eq_true, decide_false, sl3, w01]; rfl)
                                · apply cy_true (R := 100000)
                                  · (simp only [sy_tmp, S_same, Nat.reduceLT])
                                  · (apply cy_ops (R := 100000); simp only [sy_nil, sy_mov, sy_exec, sy_val, sy_tmp, sy_const, sy_of, sy_bin, sy_min, sy_add, sy_load, sy_faddr, minV_eq, S_same, S_ne, Nat.reduceLT, Nat.reduceEqDiff, ne_eq, not_false_eq_true, sy_idx, sy_idx1, fa20, l2, w01, m0]; rfl)
                              · apply cy_seq (R := 100000)
                                · (apply cy_ops (R := 100000); simp only [sy_nil, sy_mov, sy_exec, sy_val, sy_tmp, sy_of, sy_bin, sy_call, sy_evs0, sy_evs1, sy_ext, sy_ext0, sy_ext1, sy_sub, sy_load, sy_faddr, S_same, S_ne, Nat.reduceLT, Nat.reduceEqDiff, ne_eq, not_false_eq_true, sy_idx, sy_idx0, fa00, fa01, l0, l1, p0, s0]; rfl)
                                · apply cy_seq (R := 100000)
                                  · apply cy_seq (R := 100000)
                                    · (apply cy_ops (R := 100000); simp only [sy_nil, sy_mov, sy_exec, sy_val, sy_tmp, sy_const, sy_of, sy_bin, sy_neq, sy_intEq, S_same, Bool.not_true, Nat.reduceLT, decide_true]; rfl)
                                    · apply cy_false (R := 100000)
                                      · (simp only [sy_tmp, S_same, Nat.reduceLT])
                                      · exact cy_skip
                                  · (apply cy_ops (R := 100000); simp only [sy_nil, sy_mov, sy_exec, sy_val, sy_tmp, sy_of, sy_bin, sy_add, S_same, S_ne, Nat.reduceLT, Nat.reduceEqDiff, ne_eq, not_false_eq_true, z0]; rfl)
                      · (apply cy_ops (R := 100000); simp only [sy_nil, sy_mov, sy_exec, sy_val, sy_tmp, sy_const, sy_of, sy_bin, sy_add, S_same, S_ne, Nat.reduceLT, Nat.reduceEqDiff, ne_eq, not_false_eq_true, w01]; rfl)
                · skip
                  apply cy_round (R := 100000)
                  · apply cy_seq (R := 100000)
                    · (apply cy_ops (R := 100000); simp only [sy_nil, sy_exec, sy_val, sy_tmp, sy_of, sy_bin, sy_lss, sy_intLe, S_same, S_ne, Bool.not_false, Nat.reduceLT, Nat.reduceEqDiff, Int.reduceLE, ne_eq, not_false_eq_true, decide_false]; rfl)
                    · apply cy_seq (R := 100000)
                      · apply cy_true (R := 100000)
                        · (simp only [sy_tmp, S_same, Nat.reduceLT])
                        · exact cy_skip
                      · apply cy_seq (R := 100000)
                        · apply cy_block (R := 100000)
                          apply cy_seq (R := 100000)
                          · (apply cy_ops (R := 100000); simp only [sy_nil, sy_mov, sy_tmp, S_same, S_ne, Nat.reduceLT, Nat.reduceEqDiff, ne_eq, not_false_eq_true]; rfl)
                          · apply cy_seq (R := 100000)
                            · apply cy_seq (R := 100000)
                              · (apply cy_ops (R := 100000); simp only [sy_nil, sy_mov, sy_exec, sy_val, sy_tmp, sy_of, sy_bin, sy_geq, sy_load, sy_faddr, sy_intLe, S_same, S_ne, Nat.reduceLT, Nat.reduceEqDiff, ne_eq, not_false_eq_true, sy_idx, sy_idx1, fa20, l2]; rfl)
                              · apply cy_false (R := 100000)
                                · (simp only [sy_tmp, S_same, Nat.reduceLT, decide_false, g1])
                                · exact cy_skip
                            · apply cy_seq (R := 100000)
                              · (apply cy_ops (R := 100000); simp only [sy_nil, sy_mov, sy_tmp, S_same, S_ne, Nat.reduceLT, Nat.reduceEqDiff, ne_eq, not_false_eq_true]; rfl)
                              · apply cy_seq (R := 100000)
                                · apply cy_seq (R := 100000)
                                  · (apply cy_ops (R := 100000); simp only [sy_nil, sy_mov, sy_exec, sy_val, sy_tmp, sy_const, sy_of, sy_bin, sy_lss, sy_add, sy_len, sy_intLe, S_same, S_ne, Bool.not_false, Nat.reduceLT, Nat.reduceEqDiff, Int.reduceLE, ne_eq, not_false_eq_true, decide_false, sl3, w11]; rfl)
                                  · apply cy_true (R := 100000)
                                    · (simp only [sy_tmp, S_same, Nat.reduceLT])
                                    · (apply cy_ops (R := 100000); simp only [sy_nil, sy_mov, sy_exec, sy_val, sy_tmp, sy_const, sy_of, sy_bin, sy_min, sy_add, sy_load, sy_faddr, minV_eq, S_same, S_ne, Nat.reduceLT, Nat.reduceEqDiff, ne_eq, not_false_eq_true, sy_idx, sy_idx2, fa40, l4, w11, m1]; rfl)
                                · apply cy_seq (R := 100000)
                                  · (apply cy_ops (R := 100000); simp only [sy_nil, sy_mov, sy_exec, sy_val, sy_tmp, sy_of, sy_bin, sy_call, sy_evs0, sy_evs1, sy_ext, sy_ext0, sy_ext1, sy_sub, sy_load, sy_faddr, S_same, S_ne, Nat.reduceLT, Nat.reduceEqDiff, ne_eq, not_false_eq_true, sy_idx, sy_idx1, fa20, fa21, l2, l3, p1, s1]; rfl)
                                  · apply cy_seq (R := 100000)
                                    · apply cy_seq (R := 100000)
                                      · (apply cy_ops (R := 100000); simp only [sy_nil, sy_mov, sy_exec, sy_val, sy_tmp, sy_const, sy_of, sy_bin, sy_neq, sy_intEq, S_same, Bool.not_true, Nat.reduceLT, decide_true]; rfl)
                                      · apply cy_false (R := 100000)
                                        · (simp only [sy_tmp, S_same, Nat.reduceLT])
                                        · exact cy_skip
                                    · (apply cy_ops (R := 100000); simp only [sy_nil, sy_mov, sy_exec, sy_val, sy_tmp, sy_of, sy_bin, sy_add, S_same, S_ne, Nat.reduceLT, Nat.reduceEqDiff, ne_eq, not_false_eq_true, z1]; rfl)
                        · (apply cy_ops (R := 100000); simp only [sy_nil, sy_mov, sy_exec, sy_val, sy_tmp, sy_const, sy_of, sy_bin, sy_add, S_same, S_ne, Nat.reduceLT, Nat.reduceEqDiff, ne_eq, not_false_eq_true, w11]; rfl)
                  · skip
                    apply cy_round_exit (R := 100000)
                    apply cy_seq (R := 100000)
                    · (apply cy_ops (R := 100000); simp only [sy_nil, sy_exec, sy_val, sy_tmp, sy_of, sy_bin, sy_lss, sy_intLe, S_same, S_ne, Bool.not_false, Nat.reduceLT, Nat.reduceEqDiff, Int.reduceLE, ne_eq, not_false_eq_true, decide_false]; rfl)
                    · apply cy_seq (R := 100000)
                      · apply cy_true (R := 100000)
                        · (simp only [sy_tmp, S_same, Nat.reduceLT])
                        · exact cy_skip
                      · apply cy_seq_exit (R := 100000)
                        apply cy_block_other (R := 100000) rfl
                        apply cy_seq (R := 100000)
                        · (apply cy_ops (R := 100000); simp only [sy_nil, sy_mov, sy_tmp, S_same, S_ne, Nat.reduceLT, Nat.reduceEqDiff, ne_eq, not_false_eq_true]; rfl)
                        · apply cy_seq_exit (R := 100000)
                          apply cy_seq (R := 100000)
                          · (apply cy_ops (R := 100000); simp only [sy_nil, sy_mov, sy_exec, sy_val, sy_tmp, sy_of, sy_bin, sy_geq, sy_load, sy_faddr, sy_intLe, S_same, S_ne, Nat.reduceLT, Nat.reduceEqDiff, ne_eq, not_false_eq_true, sy_idx, sy_idx2, fa40, l4]; rfl)
                          · apply cy_true (R := 100000)
                            · (simp only [sy_tmp, S_same, Nat.reduceLT, decide_true, h1])
                            · exact cy_exit
            · apply cy_seq (R := 100000)
              · (apply cy_ops (R := 100000); simp only [sy_nil, sy_mov, sy_tmp, sy_const, S_same, S_ne, Nat.reduceLT, Nat.reduceEqDiff, ne_eq, not_false_eq_true]; rfl)
              · exact cy_ret
  case hr =>
    show resultsA [.tmp 4, .tmp 5] _ _ = _
    (simp only [res2, S_same, S_ne, Nat.reduceLT, Nat.reduceEqDiff, ne_eq, not_false_eq_true])
  case hn => exact sig2_next

theorem e6_D (n : Int) (h0 : 1000000 < n) (h9 : n ≤ 1000000000000) : evCall fnTab 100000 199 6 [slc, .int .i64 n] sig1 = .val (.tuple [.int .i64 (90000 + Int.tdiv ((n - 1000000) * 2000) 10000), .int .i64 0]) sig2 := by
  have g0 : (n ≤ 0) = False := by simp; omega
  have g1 : (n ≤ 100000) = False := by simp; omega
  have g2 : (n ≤ 1000000) = False := by simp; omega
  have h0' : (0 ≤ n) = True := by simp; omega
  have m0 : min n 100000 = 100000 := Int.min_eq_right (by omega)
  have m1 : min n 1000000 = 1000000 := Int.min_eq_right (by omega)
  have s0 : wrapK .i64 (100000 - 0) = 100000 := rfl
  have s1 : wrapK .i64 (1000000 - 100000) = 900000 := rfl
  have s2 : wrapK .i64 (n - 1000000) = n - 1000000 := wrap64 (by omega) (by omega)
  have hd : 0 ≤ Int.tdiv ((n - 1000000) * 2000) 10000 ∧ Int.tdiv ((n - 1000000) * 2000) 10000 ≤ 1000000000000 := by rw [Int.tdiv_eq_ediv_of_nonneg (by omega)]; omega
  have p0 : evCall fnTab 100000 198 12 [.int .i64 100000, .int .i64 0] sig2 = .val (.tuple [.int .i64 0, .int .i64 0]) sig2 := e12 100000 196 100000 0 sig2 (by omega) (by omega) (by omega) (by omega) rfl rfl
  have p1 : evCall fnTab 100000 198 12 [.int .i64 900000, .int .i64 1000] sig2 = .val (.tuple [.int .i64 90000, .int .i64 0]) sig2 := e12 100000 196 900000 1000 sig2 (by omega) (by omega) (by omega) (by omega) rfl rfl
  have p2 : evCall fnTab 100000 198 12 [.int .i64 (n - 1000000), .int .i64 2000] sig2 = .val (.tuple [.int .i64 (Int.tdiv ((n - 1000000) * 2000) 10000), .int .i64 0]) sig2 := e12 100000 196 (n - 1000000) 2000 sig2 (by omega) (by omega) (by omega) (by omega) (wrap64 (by omega) (by omega)) (wrap64 (by omega) (by omega))
  have z0 : wrapK .i64 (0 + 0) = 0 := rfl
  have z1 : wrapK .i64 (0 + 90000) = 90000 := rfl
  have z2 : wrapK .i64 (90000 + Int.tdiv ((n - 1000000) * 2000) 10000) = 90000 + Int.tdiv ((n - 1000000) * 2000) 10000 := wrap64 (by omega) (by omega)
  have v : evCall fnTab 100000 198 11 [.int .i64 n] sig2 = .val (.bool (decide (0 ≤ n) && decide (n ≤ 1000000000000))) sig2 := e11 100000 197 n sig2
  apply call_of (m := 198) tab6 rfl
  case hb =>
    show evCode _ _ a6.body ⟨S [(1, .int .i64 n), (0, slc)], []⟩ sig1 = _
    apply cy_seq (R := 100000)
    · (apply cy_ops (R := 100000); simp only [sy_nil, sy_mov, sy_const]; rfl)
    · apply cy_seq (R := 100000)
      · apply cy_seq (R := 100000)
        · (apply cy_ops (R := 100000); simp only [sy_nil, sy_mov, sy_exec, sy_val, sy_tmp, sy_call, sy_evs0, sy_evs1, S_same, S_ne, Nat.reduceLT, Nat.reduceEqDiff, ne_eq, not_false_eq_true, e10]; rfl)
        · apply cy_seq (R := 100000)
          · (apply cy_ops (R := 100000); simp only [sy_nil, sy_mov, sy_exec, sy_val, sy_tmp, sy_const, sy_of, sy_bin, sy_neq, sy_intEq, S_same, Bool.not_true, Nat.reduceLT, decide_true]; rfl)
          · apply cy_false (R := 100000)
            · (simp only [sy_tmp, S_same, Nat.reduceLT])
            · exact cy_skip
      · apply cy_seq (R := 100000)
        · apply cy_seq (R := 100000)
          · (apply cy_ops (R := 100000); simp only [sy_nil, sy_mov, sy_exec, sy_val, sy_tmp, sy_of, sy_call, sy_evs0, sy_evs1, sy_not, sy_notB, S_same, S_ne, Bool.not_true, Bool.and_true, Nat.reduceLT, Nat.reduceEqDiff, ne_eq, not_false_eq_true, decide_true, v, h0', h9]; rfl)
          · apply cy_false (R := 100000)
            · (simp only [sy_tmp, S_same, Nat.reduceLT])
            · exact cy_skip
        · apply cy_seq (R := 100000)
          · (apply cy_ops (R := 100000); simp only [sy_nil, sy_mov, sy_const]; rfl)
          · apply cy_seq (R := 100000)
            · apply cy_seq (R := 100000)
              · (apply cy_ops (R := 100000); simp only [sy_nil, sy_mov, sy_exec, sy_val, sy_tmp, sy_const, sy_len, S_same, S_ne, Nat.reduceLT, Nat.reduceEqDiff, ne_eq, not_false_eq_true, sl3]; rfl)
              · apply cy_block_exit (R := 100000)
                apply cy_loop (R := 100000)
                apply cy_round (R := 100000)
                · apply cy_seq (R := 100000)
                  · (apply cy_ops (R := 100000); simp only [sy_nil, sy_exec, sy_val, sy_tmp, sy_of, sy_bin, sy_lss, sy_intLe, S_same, S_ne, Bool.not_false, Nat.reduceLT, Nat.reduceEqDiff, Int.reduceLE, ne_eq, not_false_eq_true, decide_false]; rfl)
                  · apply cy_seq (R := 100000)
                    · apply cy_true (R := 100000)
                      · (simp only [sy_tmp, S_same, Nat.reduceLT])
                      · exact cy_skip
                    · apply cy_seq (R := 100000)
                      · apply cy_block (R := 100000)
                        apply cy_seq (R := 100000)
                        · (apply cy_ops (R := 100000); simp only [sy_nil, sy_mov, sy_tmp, S_same, S_ne, Nat.reduceLT, Nat.reduceEqDiff, ne_eq, not_false_eq_true]; rfl)
                        · apply cy_seq (R := 100000)
                          · apply cy_seq (R := 100000)
                            · (apply cy_ops (R := 100000); simp only [sy_nil, sy_mov, sy_exec, sy_val, sy_tmp, sy_of, sy_bin, sy_geq, sy_load, sy_faddr, sy_intLe, S_same, S_ne, Nat.reduceLT, Nat.reduceEqDiff, ne_eq, not_false_eq_true, sy_idx, sy_idx0, fa00, l0]; rfl)
                            · apply cy_false (R := 100000)
                              · (simp only [sy_tmp, S_same, Nat.reduceLT, decide_false, g0])
                              · exact cy_skip
                          · apply cy_seq (R := 100000)
                            · (apply cy_ops (R := 100000); simp only [sy_nil, sy_mov, sy_tmp, S_same, S_ne, Nat.reduceLT, Nat.reduceEqDiff, ne_eq, not_false_eq_true]; rfl)
                            · apply cy_seq (R := 100000)
                              · apply cy_seq (R := 100000)
                                · (apply cy_ops (R := 100000); simp only [sy_nil, sy_mov, sy_exec, sy_val, sy_tmp, sy_const, sy_of, sy_bin, sy_lss, sy_add, sy_len, sy_intLe, S_same, S_ne, Bool.not_false, Nat.reduceLT, Nat.reduceEqDiff, Int.reduceLE, ne_eq, not_false_eq_true, decide_false, sl3, w01]; rfl)
                                · apply cy_true (R := 100000)
                                  · (simp only [sy_tmp, S_same, Nat.reduceLT])
                                  · (apply cy_ops (R := 100000); simp only [sy_nil, sy_mov, sy_exec, sy_val, sy_tmp, sy_const, sy_of, sy_bin, sy_min, sy_add, sy_load, sy_faddr, minV_eq, S_same, S_ne, Nat.reduceLT, Nat.reduceEqDiff, ne_eq, not_false_eq_true, sy_idx, sy_idx1, fa20, l2, w01, m0]; rfl)
                              · apply cy_seq (R := 100000)
                                · (apply cy_ops (R := 100000); simp only [sy_nil, sy_mov, sy_exec, sy_val, sy_tmp, sy_of, sy_bin, sy_call, sy_evs0, sy_evs1, sy_ext, sy_ext0, sy_ext1, sy_sub, sy_load, sy_faddr, S_same, S_ne, Nat.reduceLT, Nat.reduceEqDiff, ne_eq, not_false_eq_true, sy_idx, sy_idx0, fa00, fa01, l0, l1, p0, s0]; rfl)
                                · apply cy_seq (R := 100000)
                                  · apply cy_seq (R := 100000)
                                    · (apply cy_ops (R := 100000); simp only [sy_nil, sy_mov, sy_exec, sy_val, sy_tmp, sy_const, sy_of, sy_bin, sy_neq, sy_intEq, S_same, Bool.not_true, Nat.reduceLT, decide_true]; rfl)
                                    · apply cy_false (R := 100000)
                                      · (simp only [sy_tmp, S_same, Nat.reduceLT])
                                      · exact cy_skip
                                  · (apply cy_ops (R := 100000); simp only [sy_nil, sy_mov, sy_exec, sy_val, sy_tmp, sy_of, sy_bin, sy_add, S_same, S_ne, Nat.reduceLT, Nat.reduceEqDiff, ne_eq, not_false_eq_true, z0]; rfl)
                      · (apply cy_ops (R := 100000); simp only [sy_nil, sy_mov, sy_exec, sy_val, sy_tmp, sy_const, sy_of, sy_bin, sy_add, S_same, S_ne, Nat.reduceLT, Nat.reduceEqDiff, ne_eq, not_false_eq_true, w01]; rfl)
                · skip
                  apply cy_round (R := 100000)
                  · apply cy_seq (R := 100000)
                    · (apply cy_ops (R := 100000); simp only [sy_nil, sy_exec, sy_val, sy_tmp, sy_of, sy_bin, sy_lss, sy_intLe, S_same, S_ne, Bool.not_false, Nat.reduceLT, Nat.reduceEqDiff, Int.reduceLE, ne_eq, not_false_eq_true, decide_false]; rfl)
                    · apply cy_seq (R := 100000)
                      · apply cy_true (R := 100000)
                        · (simp only [sy_tmp, S_same, Nat.reduceLT])
                        · exact cy_skip
                      · apply cy_seq (R := 100000)
                        · apply cy_block (R := 100000)
                          apply cy_seq (R := 100000)
                          · (apply cy_ops (R := 100000); simp only [sy_nil, sy_mov, sy_tmp, S_same, S_ne, Nat.reduceLT, Nat.reduceEqDiff, ne_eq, not_false_eq_true]; rfl)
                          · apply cy_seq (R := 100000)
                            · apply cy_seq (R := 100000)
                              · (apply cy_ops (R := 100000); simp only [sy_nil, sy_mov, sy_exec, sy_val, sy_tmp, sy_of, sy_bin, sy_geq, sy_load, sy_faddr, sy_intLe, S_same, S_ne, Nat.reduceLT, Nat.reduceEqDiff, ne_eq, not_false_eq_true, sy_idx, sy_idx1, fa20, l2]; rfl)
                              · apply cy_false (R := 100000)
                                · (simp only [sy_tmp, S_same, Nat.reduceLT, decide_false, g1])
                                · exact cy_skip
                            · apply cy_seq (R := 100000)
                              · (apply cy_ops (R := 100000); simp only [sy_nil, sy_mov, sy_tmp, S_same, S_ne, Nat.reduceLT, Nat.reduceEqDiff, ne_eq, not_false_eq_true]; rfl)
                              · apply cy_seq (R := 100000)
                                · apply cy_seq (R := 100000)
                                  · (apply cy_ops (R := 100000); simp only [sy_nil, sy_mov, sy_exec, sy_val, sy_tmp, sy_const, sy_of, sy_bin, sy_lss, sy_add, sy_len, sy_intLe, S_same, S_ne, Bool.not_false, Nat.reduceLT, Nat.reduceEqDiff, Int.reduceLE, ne_eq, not_false_eq_true, decide_false, sl3, w11]; rfl)
                                  · apply cy_true (R := 100000)
                                    · (simp only [sy_tmp, S_same, Nat.reduceLT])
                                    · (apply cy_ops (R := 100000); simp only [sy_nil, sy_mov, sy_exec, sy_val, sy_tmp, sy_const, sy_of, sy_bin, sy_min, sy_add, sy_load, sy_faddr, minV_eq, S_same, S_ne, Nat.reduceLT, Nat.reduceEqDiff, ne_eq, not_false_eq_true, sy_idx, sy_idx2, fa40, l4, w11, m1]; rfl)
                                · apply cy_seq (R := 100000)
                                  · (apply cy_ops (R := 100000); simp only [sy_nil, sy_mov, sy_exec, sy_val, sy_tmp, sy_of, sy_bin, sy_call, sy_evs0, sy_evs1, sy_ext, sy_ext0, sy_ext1, sy_sub, sy_load, sy_faddr, S_same, S_ne, Nat.reduceLT, Nat.reduceEqDiff, ne_eq, not_false_eq_true, sy_idx, sy_idx1, fa20, fa21, l2, l3, p1, s1]; rfl)
                                  · apply cy_seq (R := 100000)
                                    · apply cy_seq (R := 100000)
                                      · (apply cy_ops (R := 100000); simp only [sy_nil, sy_mov, sy_exec, sy_val, sy_tmp, sy_const, sy_of, sy_bin, sy_neq, sy_intEq, S_same, Bool.not_true, Nat.reduceLT, decide_true]; rfl)
                                      · apply cy_false (R := 100000)
                                        · (simp only [sy_tmp, S_same, Nat.reduceLT])
                                        · exact cy_skip
                                    · (apply cy_ops (R := 100000); simp only [sy_nil, sy_mov, sy_exec, sy_val, sy_tmp, sy_of, sy_bin, sy_add, S_same, S_ne, Nat.reduceLT, Nat.reduceEqDiff, ne_eq, not_false_eq_true, z1]; rfl)
                        · (apply cy_ops (R := 100000); simp only [sy_nil, sy_mov, sy_exec, sy_val, sy_tmp, sy_const, sy_of, sy_bin, sy_add, S_same, S_ne, Nat.reduceLT, Nat.reduceEqDiff, ne_eq, not_false_eq_true, w11]; rfl)
                  · skip
                    apply cy_round (R := 100000)
                    · apply cy_seq (R := 100000)
                      · (apply cy_ops (R := 100000); simp only [sy_nil, sy_exec, sy_val, sy_tmp, sy_of, sy_bin, sy_lss, sy_intLe, S_same, S_ne, Bool.not_false, Nat.reduceLT, Nat.reduceEqDiff, Int.reduceLE, ne_eq, not_false_eq_true, decide_false]; rfl)
                      · apply cy_seq (R := 100000)
                        · apply cy_true (R := 100000)
                          · (simp only [sy_tmp, S_same, Nat.reduceLT])
                          · exact cy_skip
                        · apply cy_seq (R := 100000)
                          · apply cy_block (R := 100000)
                            apply cy_seq (R := 100000)
                            · (apply cy_ops (R := 100000); simp only [sy_nil, sy_mov, sy_tmp, S_same, S_ne, Nat.reduceLT, Nat.reduceEqDiff, ne_eq, not_false_eq_true]; rfl)
                            · apply cy_seq (R := 100000)
                              · apply cy_seq (R := 100000)
                                · (apply cy_ops (R := 100000); simp only [sy_nil, sy_mov, sy_exec, sy_val, sy_tmp, sy_of, sy_bin, sy_geq, sy_load, sy_faddr, sy_intLe, S_same, S_ne, Nat.reduceLT, Nat.reduceEqDiff, ne_eq, not_false_eq_true, sy_idx, sy_idx2, fa40, l4]; rfl)
                                · apply cy_false (R := 100000)
                                  · (simp only [sy_tmp, S_same, Nat.reduceLT, decide_false, g2])
                                  · exact cy_skip
                              · apply cy_seq (R := 100000)
                                · (apply cy_ops (R := 100000); simp only [sy_nil, sy_mov, sy_tmp, S_same, S_ne, Nat.reduceLT, Nat.reduceEqDiff, ne_eq, not_false_eq_true]; rfl)
                                · apply cy_seq (R := 100000)
                                  · apply cy_seq (R := 100000)
                                    · (apply cy_ops (R := 100000); simp only [sy_nil, sy_mov, sy_exec, sy_val, sy_tmp, sy_const, sy_of, sy_bin, sy_lss, sy_add, sy_len, sy_intLe, S_same, S_ne, Bool.not_true, Nat.reduceLT, Nat.reduceEqDiff, Int.reduceLE, ne_eq, not_false_eq_true, decide_true, sl3, w21]; rfl)
                                    · apply cy_false (R := 100000)
                                      · (simp only [sy_tmp, S_same, Nat.reduceLT])
                                      · exact cy_skip
                                  · apply cy_seq (R := 100000)
                                    · (apply cy_ops (R := 100000); simp only [sy_nil, sy_mov, sy_exec, sy_val, sy_tmp, sy_of, sy_bin, sy_call, sy_evs0, sy_evs1, sy_ext, sy_ext0, sy_ext1, sy_sub, sy_load, sy_faddr, S_same, S_ne, Nat.reduceLT, Nat.reduceEqDiff, ne_eq, not_false_eq_true, sy_idx, sy_idx2, fa40, fa41, l4, l5, p2, s2]; rfl)
                                    · apply cy_seq (R := 100000)
                                      · apply cy_seq (R := 100000)
                                        · (apply cy_ops (R := 100000); simp only [sy_nil, sy_mov, sy_exec, sy_val, sy_tmp, sy_const, sy_of, sy_bin, sy_neq, sy_intEq, S_same, Bool.not_true, Nat.reduceLT, decide_true]; rfl)
                                        · apply cy_false (R := 100000)
                                          · (simp only [sy_tmp, S_same, Nat.reduceLT])
                                          · exact cy_skip
                                      · (apply cy_ops (R := 100000); simp only [sy_nil, sy_mov, sy_exec, sy_val, sy_tmp, sy_of, sy_bin, sy_add, S_same, S_ne, Nat.reduceLT, Nat.reduceEqDiff, ne_eq, not_false_eq_true, z2]; rfl)
                          · (apply cy_ops (R := 100000); simp only [sy_nil, sy_mov, sy_exec, sy_val, sy_tmp, sy_const, sy_of, sy_bin, sy_add, S_same, S_ne, Nat.reduceLT, Nat.reduceEqDiff, ne_eq, not_false_eq_true, w21]; rfl)
                    · skip
                      apply cy_round_exit (R := 100000)
                      apply cy_seq (R := 100000)
                      · (apply cy_ops (R := 100000); simp only [sy_nil, sy_exec, sy_val, sy_tmp, sy_of, sy_bin, sy_lss, sy_intLe, S_same, S_ne, Bool.not_true, Nat.reduceLT, Nat.reduceEqDiff, Int.reduceLE, ne_eq, not_false_eq_true, decide_true]; rfl)
                      · apply cy_seq_exit (R := 100000)
                        apply cy_false (R := 100000)
                        · (simp only [sy_tmp, S_same, Nat.reduceLT])
                        · exact cy_exit
            · apply cy_seq (R := 100000)
              · (apply cy_ops (R := 100000); simp only [sy_nil, sy_mov, sy_tmp, sy_const, S_same, S_ne, Nat.reduceLT, Nat.reduceEqDiff, ne_eq, not_false_eq_true]; rfl)
              · exact cy_ret
  case hr =>
    show resultsA [.tmp 4, .tmp 5] _ _ = _
    (simp only [res2, S_same, S_ne, Nat.reduceLT, Nat.reduceEqDiff, ne_eq, not_false_eq_true])
  case hn => exact sig2_next

end Go.Proofs
