/- OperatorTaxes, whatever the amount: given what works comes to. -/
import Derived.Test.YtgiebkbbnjnplaaGreatDoorAbTax2
set_option maxRecDepth 100000
namespace Go.Proofs
open Go.Ab Go

theorem sy_build (call : CallFn) (z : List AVal) (ps : List ((Nat × Nat) × Opd)) (u : Tmps) (σ : Heap) : evOp (.build z ps) call u σ = oBuild z ps u σ := rfl
theorem b0 (u : Tmps) (σ : Heap) : oBuild [.int .i64 0, .int .i64 0] [] u σ = .val (.agg [.int .i64 0, .int .i64 0]) σ := rfl
theorem b1 (u : Tmps) (σ : Heap) : oBuild [.int .i64 0, .int .i64 0] [((0, 1), .const (.int .i64 100000)), ((1, 1), .const (.int .i64 1000))] u σ = .val (.agg [.int .i64 100000, .int .i64 1000]) σ := rfl
theorem b2 (u : Tmps) (σ : Heap) : oBuild [.int .i64 0, .int .i64 0] [((0, 1), .const (.int .i64 1000000)), ((1, 1), .const (.int .i64 2000))] u σ = .val (.agg [.int .i64 1000000, .int .i64 2000]) σ := rfl
noncomputable def eqcV (neg : Bool) (ks : List CK) (x y : AVal) (σ : Heap) : Out :=
  match x, y with
  | .agg as, .agg bs => Bool.casesOn (Nat.beq (len as) (len ks) && Nat.beq (len bs) (len ks)) .fail (match eqCellsA ks as bs with
    | some b => .val (.bool (negIf neg b)) σ
    | none => .fail)
  | _, _ => .fail
theorem sy_eqc (call : CallFn) (neg : Bool) (ks : List CK) (x y : Opd) (u : Tmps) (σ : Heap) : evOp (.eqCells neg ks x y) call u σ = eqcV neg ks (x.ev u) (y.ev u) σ := rfl
theorem q0 (σ : Heap) : eqcV true [.int, .int] (.agg [.int .i64 0, .int .i64 0]) (.agg [.int .i64 0, .int .i64 0]) σ = .val (.bool false) σ := rfl
theorem q1 (σ : Heap) : eqcV true [.int, .int] (.agg [.int .i64 100000, .int .i64 1000]) (.agg [.int .i64 100000, .int .i64 1000]) σ = .val (.bool false) σ := rfl
theorem q2 (σ : Heap) : eqcV true [.int, .int] (.agg [.int .i64 1000000, .int .i64 2000]) (.agg [.int .i64 1000000, .int .i64 2000]) σ = .val (.bool false) σ := rfl
theorem k0 : loadAt sig1 (some 2) (.ptr (some (4, 0))) = some (.agg [.int .i64 0, .int .i64 0]) := by kernel_rfl
theorem k1 : loadAt sig1 (some 2) (.ptr (some (4, 2))) = some (.agg [.int .i64 100000, .int .i64 1000]) := by kernel_rfl
theorem k2 : loadAt sig1 (some 2) (.ptr (some (4, 4))) = some (.agg [.int .i64 1000000, .int .i64 2000]) := by kernel_rfl

theorem ex_of {call : CallFn} {x : ACode} {a : AAct} {σ σ' : Heap} {ts : Tmps} (hb : evCode call 100000 x a σ = .done .ret ⟨ts, []⟩ σ') (hr : tmpOf ts 2 = .bool true) :
    ∃ ts, evCode call 100000 x a σ = .done .ret ⟨ts, []⟩ σ' ∧ tmpOf ts 2 = .bool true := ⟨ts, hb, hr⟩

theorem e3_neg (call : CallFn) (n : Int) (h : n < 0) {σ' : Heap} (h5 : call 5 [] sig0 = .val slc sig1) (t6 : call 6 [slc, .int .i64 n] sig1 = .val (.tuple [.int .i64 0, .int .i64 2]) sig2) (hw : call 7 [] sig2 = .val (.bool true) σ') : ∃ ts, evCode call 100000 a3.body ⟨S [(0, .int .i64 n)], []⟩ sig0 = .done .ret ⟨ts, []⟩ σ' ∧ tmpOf ts 2 = .bool true := by
  have g0 : (0 ≤ n) = False := by simp; omega
  apply ex_of
  case hb =>
    apply cy_seq (R := 100000)
    · (apply cy_ops (R := 100000); simp only [sy_nil, sy_mov, sy_const]; rfl)
    · apply cy_seq (R := 100000)
      · (apply cy_ops (R := 100000); simp only [sy_nil, sy_mov, sy_exec, sy_val, sy_tmp, sy_call, sy_evs0, S_same, Nat.reduceLT, h5]; rfl)
      · apply cy_seq (R := 100000)
        · apply cy_seq (R := 100000)
          · (apply cy_ops (R := 100000); simp only [sy_nil, sy_mov, sy_exec, sy_guard, sy_wanted, sy_wB, sy_val, sy_tmp, sy_const, sy_of, sy_move, sy_bin, sy_pick, sy_pickF, sy_neq, sy_load, sy_len, sy_intEq, S_same, S_ne, cond_true, Bool.not_true, Nat.reduceLT, Nat.reduceEqDiff, ne_eq, not_false_eq_true, beq_self_eq_true, decide_true, sy_idx, sy_idx0, sy_idx1, sy_idx2, sl3, k0, k1, k2, b0, b1, b2, sy_build, q0, q1, q2, sy_eqc, eq_self]; rfl)
          · apply cy_false (R := 100000)
            · (simp only [sy_tmp, S_same, Nat.reduceLT, eq_self])
            · exact cy_skip
        · apply cy_seq (R := 100000)
          · (apply cy_ops (R := 100000); simp only [sy_nil, sy_mov, sy_exec, sy_val, sy_tmp, sy_call, sy_evs0, sy_evs1, sy_ext, sy_ext0, sy_ext1, S_same, S_ne, Nat.reduceLT, Nat.reduceEqDiff, ne_eq, not_false_eq_true, t6]; rfl)
          · apply cy_seq_ret (R := 100000)
            apply cy_seq (R := 100000)
            · (apply cy_ops (R := 100000); simp only [sy_nil, sy_mov, sy_exec, sy_guard, sy_wanted, sy_wB, sy_val, sy_tmp, sy_const, sy_of, sy_move, sy_bin, sy_pick, sy_pickT, sy_lss, sy_gtr, sy_tf, sy_intLe, S_same, S_ne, cond_false, Bool.not_false, Nat.reduceLT, Nat.reduceEqDiff, ne_eq, not_false_eq_true, decide_false, g0]; rfl)
            · apply cy_true (R := 100000)
              · (simp only [sy_tmp, S_same, Nat.reduceLT, eq_self])
              · apply cy_seq (R := 100000)
                · (apply cy_ops (R := 100000); simp only [sy_nil, sy_mov, sy_exec, sy_guard, sy_wanted, sy_wB, sy_val, sy_tmp, sy_const, sy_of, sy_move, sy_bin, sy_call, sy_evs0, sy_pick, sy_pickT, sy_eql, sy_intEq, S_same, S_ne, cond_true, Nat.reduceLT, Nat.reduceEqDiff, ne_eq, not_false_eq_true, beq_self_eq_true, decide_true, eq_self, hw]; rfl)
                · exact cy_ret
  case hr =>
    (simp only [S_same, Nat.reduceLT, eq_self])

theorem e3_big (call : CallFn) (n : Int) (h : 1000000000000 < n) {σ' : Heap} (h5 : call 5 [] sig0 = .val slc sig1) (t6 : call 6 [slc, .int .i64 n] sig1 = .val (.tuple [.int .i64 0, .int .i64 2]) sig2) (hw : call 7 [] sig2 = .val (.bool true) σ') : ∃ ts, evCode call 100000 a3.body ⟨S [(0, .int .i64 n)], []⟩ sig0 = .done .ret ⟨ts, []⟩ σ' ∧ tmpOf ts 2 = .bool true := by
  have g0 : (0 ≤ n) = True := by simp; omega
  have g1 : (n ≤ 1000000000000) = False := by simp; omega
  apply ex_of
  case hb =>
    apply cy_seq (R := 100000)
    · (apply cy_ops (R := 100000); simp only [sy_nil, sy_mov, sy_const]; rfl)
    · apply cy_seq (R := 100000)
      · (apply cy_ops (R := 100000); simp only [sy_nil, sy_mov, sy_exec, sy_val, sy_tmp, sy_call, sy_evs0, S_same, Nat.reduceLT, h5]; rfl)
      · apply cy_seq (R := 100000)
        · apply cy_seq (R := 100000)
          · (apply cy_ops (R := 100000); simp only [sy_nil, sy_mov, sy_exec, sy_guard, sy_wanted, sy_wB, sy_val, sy_tmp, sy_const, sy_of, sy_move, sy_bin, sy_pick, sy_pickF, sy_neq, sy_load, sy_len, sy_intEq, S_same, S_ne, cond_true, Bool.not_true, Nat.reduceLT, Nat.reduceEqDiff, ne_eq, not_false_eq_true, beq_self_eq_true, decide_true, sy_idx, sy_idx0, sy_idx1, sy_idx2, sl3, k0, k1, k2, b0, b1, b2, sy_build, q0, q1, q2, sy_eqc, eq_self]; rfl)
          · apply cy_false (R := 100000)
            · (simp only [sy_tmp, S_same, Nat.reduceLT, eq_self])
            · exact cy_skip
        · apply cy_seq (R := 100000)
          · (apply cy_ops (R := 100000); simp only [sy_nil, sy_mov, sy_exec, sy_val, sy_tmp, sy_call, sy_evs0, sy_evs1, sy_ext, sy_ext0, sy_ext1, S_same, S_ne, Nat.reduceLT, Nat.reduceEqDiff, ne_eq, not_false_eq_true, t6]; rfl)
          · apply cy_seq_ret (R := 100000)
            apply cy_seq (R := 100000)
            · (apply cy_ops (R := 100000); simp only [sy_nil, sy_mov, sy_exec, sy_guard, sy_wanted, sy_wB, sy_val, sy_tmp, sy_const, sy_of, sy_move, sy_bin, sy_pick, sy_pickF, sy_lss, sy_gtr, sy_intLe, S_same, S_ne, cond_true, Bool.not_true, Bool.not_false, Nat.reduceLT, Nat.reduceEqDiff, ne_eq, not_false_eq_true, beq_self_eq_true, decide_true, decide_false, g0, g1]; rfl)
            · apply cy_true (R := 100000)
              · (simp only [sy_tmp, S_same, Nat.reduceLT, eq_self])
              · apply cy_seq (R := 100000)
                · (apply cy_ops (R := 100000); simp only [sy_nil, sy_mov, sy_exec, sy_guard, sy_wanted, sy_wB, sy_val, sy_tmp, sy_const, sy_of, sy_move, sy_bin, sy_call, sy_evs0, sy_pick, sy_pickT, sy_eql, sy_intEq, S_same, S_ne, cond_true, Nat.reduceLT, Nat.reduceEqDiff, ne_eq, not_false_eq_true, beq_self_eq_true, decide_true, eq_self, hw]; rfl)
                · exact cy_ret
  case hr =>
    (simp only [S_same, Nat.reduceLT, eq_self])

/-- The amount is valid: given its tax. -/
theorem e3_ok (call : CallFn) (n : Int) (T : Int) (h : 0 ≤ n) (h9 : n ≤ 1000000000000) (hT : T = Int.tdiv (max (min n 1000000 - 100000) 0) 10 + Int.tdiv (max (n - 1000000) 0) 5) {σ' : Heap} (h5 : call 5 [] sig0 = .val slc sig1) (t6 : call 6 [slc, .int .i64 n] sig1 = .val (.tuple [.int .i64 T, .int .i64 0]) sig2) (hw : call 7 [] sig2 = .val (.bool true) σ') : ∃ ts, evCode call 100000 a3.body ⟨S [(0, .int .i64 n)], []⟩ sig0 = .done .ret ⟨ts, []⟩ σ' ∧ tmpOf ts 2 = .bool true := by
  have g0 : (0 ≤ n) = True := by simp; omega
  have g9 : (n ≤ 1000000000000) = True := by simp; omega
  obtain ⟨m, hm⟩ : ∃ m, m = min n 1000000 := ⟨_, rfl⟩
  obtain ⟨x1, hx1⟩ : ∃ x, x = m - 100000 := ⟨_, rfl⟩
  obtain ⟨x2, hx2⟩ : ∃ x, x = max x1 0 := ⟨_, rfl⟩
  obtain ⟨x3, hx3⟩ : ∃ x, x = Int.tdiv x2 10 := ⟨_, rfl⟩
  obtain ⟨y1, hy1⟩ : ∃ x, x = n - 1000000 := ⟨_, rfl⟩
  obtain ⟨y2, hy2⟩ : ∃ x, x = max y1 0 := ⟨_, rfl⟩
  obtain ⟨y3, hy3⟩ : ∃ x, x = Int.tdiv y2 5 := ⟨_, rfl⟩
  have bx : 0 ≤ x3 ∧ x3 ≤ 1000000000000 := by rw [hx3, Int.tdiv_eq_ediv_of_nonneg (by omega)]; omega
  have by' : 0 ≤ y3 ∧ y3 ≤ 1000000000000 := by rw [hy3, Int.tdiv_eq_ediv_of_nonneg (by omega)]; omega
  have hT' : T = x3 + y3 := by rw [hT, hx3, hy3, hx2, hy2, hx1, hy1, hm]
  have a1 : ∀ σ, minV (.int .i64 n) (.int .i64 1000000) σ = .val (.int .i64 m) σ := fun σ => by rw [minV_eq, ← hm]
  have a2 : binFast .sub (.int .i64 m) (.int .i64 100000) = some (.int .i64 x1) := by rw [sy_sub, ← hx1, wrap64 (by omega) (by omega)]
  have a3' : ∀ σ, maxV (.int .i64 x1) (.int .i64 0) σ = .val (.int .i64 x2) σ := fun σ => by rw [maxV_eq, ← hx2]
  have a4 : binFast .quo (.int .i64 x2) (.int .i64 10) = some (.int .i64 x3) := by rw [sy_q10, ← hx3, wrap64 (by omega) (by omega)]
  have a5' : binFast .sub (.int .i64 n) (.int .i64 1000000) = some (.int .i64 y1) := by rw [sy_sub, ← hy1, wrap64 (by omega) (by omega)]
  have a6' : ∀ σ, maxV (.int .i64 y1) (.int .i64 0) σ = .val (.int .i64 y2) σ := fun σ => by rw [maxV_eq, ← hy2]
  have a7' : binFast .quo (.int .i64 y2) (.int .i64 5) = some (.int .i64 y3) := by rw [sy_q5, ← hy3, wrap64 (by omega) (by omega)]
  have a8' : binFast .add (.int .i64 x3) (.int .i64 y3) = some (.int .i64 T) := by rw [sy_add, ← hT', wrap64 (by omega) (by omega)]
  clear hT hT' bx by' hm hx1 hx2 hx3 hy1 hy2 hy3
  apply ex_of
  case hb =>
    apply cy_seq (R := 100000)
    · (apply cy_ops (R := 100000); simp only [sy_nil, sy_mov, sy_const]; rfl)
    · apply cy_seq (R := 100000)
      · (apply cy_ops (R := 100000); simp only [sy_nil, sy_mov, sy_exec, sy_val, sy_tmp, sy_call, sy_evs0, S_same, Nat.reduceLT, h5]; rfl)
      · apply cy_seq (R := 100000)
        · apply cy_seq (R := 100000)
          · (apply cy_ops (R := 100000); simp only [sy_nil, sy_mov, sy_exec, sy_guard, sy_wanted, sy_wB, sy_val, sy_tmp, sy_const, sy_of, sy_move, sy_bin, sy_pick, sy_pickF, sy_neq, sy_load, sy_len, sy_intEq, S_same, S_ne, cond_true, Bool.not_true, Nat.reduceLT, Nat.reduceEqDiff, ne_eq, not_false_eq_true, beq_self_eq_true, decide_true, sy_idx, sy_idx0, sy_idx1, sy_idx2, sl3, k0, k1, k2, b0, b1, b2, sy_build, q0, q1, q2, sy_eqc, eq_self]; rfl)
          · apply cy_false (R := 100000)
            · (simp only [sy_tmp, S_same, Nat.reduceLT, eq_self])
            · exact cy_skip
        · apply cy_seq (R := 100000)
          · (apply cy_ops (R := 100000); simp only [sy_nil, sy_mov, sy_exec, sy_val, sy_tmp, sy_call, sy_evs0, sy_evs1, sy_ext, sy_ext0, sy_ext1, S_same, S_ne, Nat.reduceLT, Nat.reduceEqDiff, ne_eq, not_false_eq_true, t6]; rfl)
          · apply cy_seq (R := 100000)
            · apply cy_seq (R := 100000)
              · (apply cy_ops (R := 100000); simp only [sy_nil, sy_mov, sy_exec, sy_guard, sy_wanted, sy_wB, sy_val, sy_tmp, sy_const, sy_of, sy_move, sy_bin, sy_pick, sy_pickF, sy_lss, sy_gtr, sy_intLe, S_same, S_ne, cond_true, Bool.not_true, Nat.reduceLT, Nat.reduceEqDiff, ne_eq, not_false_eq_true, beq_self_eq_true, decide_true, g0, g9]; rfl)
              · apply cy_false (R := 100000)
                · (simp only [sy_tmp, S_same, Nat.reduceLT, eq_self])
                · exact cy_skip
            · apply cy_seq (R := 100000)
              · (apply cy_ops (R := 100000); simp only [sy_nil, sy_mov, sy_exec, sy_val, sy_tmp, sy_const, sy_of, sy_bin, sy_min, sy_max, S_same, S_ne, Nat.reduceLT, Nat.reduceEqDiff, ne_eq, not_false_eq_true, a1, a2, a3', a4, a5', a6', a7', a8']; rfl)
              · apply cy_seq (R := 100000)
                · (apply cy_ops (R := 100000); simp only [sy_nil, sy_mov, sy_exec, sy_guard, sy_wanted, sy_wB, sy_val, sy_tmp, sy_const, sy_of, sy_move, sy_bin, sy_call, sy_evs0, sy_pick, sy_pickT, sy_eql, sy_intEq, S_same, S_ne, cond_true, Nat.reduceLT, Nat.reduceEqDiff, ne_eq, not_false_eq_true, beq_self_eq_true, decide_true, eq_self, hw]; rfl)
                · exact cy_ret
  case hr =>
    (simp only [S_same, Nat.reduceLT, eq_self])

/-- Whatever the amount. -/
theorem e3 (n : Int) {σ' : Heap} (hw : evCall fnTab 100000 199 7 [] sig2 = .val (.bool true) σ') (hn : sig0.next ≤ σ'.next) : evCall fnTab 100000 200 3 [.int .i64 n] sig0 = .val (.bool true) σ' := by
  have fin : (∃ ts, evCode (evCall fnTab 100000 199) 100000 a3.body ⟨S [(0, .int .i64 n)], []⟩ sig0 = .done .ret ⟨ts, []⟩ σ' ∧ tmpOf ts 2 = .bool true) → evCall fnTab 100000 200 3 [.int .i64 n] sig0 = .val (.bool true) σ' := by
    rintro ⟨ts, h1, h2⟩
    exact call_of (m := 199) tab3 rfl h1 (by rw [← h2]; rfl) hn
  by_cases h0 : n < 0
  · exact fin (e3_neg _ n h0 e5 (e6_bad n (.inl h0)) hw)
  by_cases h9 : 1000000000000 < n
  · exact fin (e3_big _ n h9 e5 (e6_bad n (.inr h9)) hw)
  by_cases h1 : n ≤ 0
  · refine fin (e3_ok _ n 0 (by omega) (by omega) ?_ e5 (e6_A n (by omega) h1) hw)
    rw [Int.tdiv_eq_ediv_of_nonneg (by omega), Int.tdiv_eq_ediv_of_nonneg (by omega)]
    omega
  by_cases h2 : n ≤ 100000
  · refine fin (e3_ok _ n 0 (by omega) (by omega) ?_ e5 (e6_B n (by omega) h2) hw)
    rw [Int.tdiv_eq_ediv_of_nonneg (by omega), Int.tdiv_eq_ediv_of_nonneg (by omega)]
    omega
  by_cases h3 : n ≤ 1000000
  · refine fin (e3_ok _ n _ (by omega) (by omega) ?_ e5 (e6_C n (by omega) h3) hw)
    rw [Int.tdiv_eq_ediv_of_nonneg (by omega), Int.tdiv_eq_ediv_of_nonneg (by omega), Int.tdiv_eq_ediv_of_nonneg (by omega)]
    omega
  · refine fin (e3_ok _ n _ (by omega) (by omega) ?_ e5 (e6_D n (by omega) (by omega)) hw)
    rw [Int.tdiv_eq_ediv_of_nonneg (by omega), Int.tdiv_eq_ediv_of_nonneg (by omega), Int.tdiv_eq_ediv_of_nonneg (by omega)]
    omega

end Go.Proofs
