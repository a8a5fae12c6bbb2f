/- What the functions of the tax come to, whatever the amount. -/
import Derived.Test.YtgiebkbbnjnplaaGreatDoorAbSym
import Derived.Test.YtgiebkbbnjnplaaGreatDoorAbTab
import Derived.KernelRfl
namespace Go.Proofs
open Go.Ab Go

theorem sy_ft : (false == true) = false := rfl
theorem sy_tf : (true == false) = false := rfl
theorem sy_q10000 (a : Int) : binFast .quo (.int .i64 a) (.int .i64 10000) = some (.int .i64 (wrapK .i64 (Int.tdiv a 10000))) := rfl
theorem sy_q10 (a : Int) : binFast .quo (.int .i64 a) (.int .i64 10) = some (.int .i64 (wrapK .i64 (Int.tdiv a 10))) := rfl
theorem sy_q5 (a : Int) : binFast .quo (.int .i64 a) (.int .i64 5) = some (.int .i64 (wrapK .i64 (Int.tdiv a 5))) := rfl
theorem sy_load (call : CallFn) (n : Option Nat) (a : Opd) (u : Tmps) (σ : Heap) : evOp (.load n a) call u σ = .of (loadAt σ n (a.ev u)) σ := rfl
noncomputable def faV (off : Nat) (x : AVal) (σ : Heap) : Out :=
  match x with
  | .ptr (some (b, o)) => .val (.ptr (some (b, Nat.add o off))) σ
  | _ => .fail
theorem sy_faddr (call : CallFn) (off : Nat) (x : Opd) (u : Tmps) (σ : Heap) : evOp (.fieldAddr off x) call u σ = faV off (x.ev u) σ := rfl
noncomputable def lenV (x : AVal) (σ : Heap) : Out :=
  match x with
  | .slice _ n _ _ _ => .val (.int .i64 (Int.ofNat n)) σ
  | _ => .fail
theorem sy_len (call : CallFn) (x : Opd) (u : Tmps) (σ : Heap) : evOp (.len x) call u σ = lenV (x.ev u) σ := rfl
theorem res1 (t : Nat) (ts : Tmps) (σ : Heap) : resultsA [.tmp t] ts σ = some (tmpOf ts t) := rfl
theorem res2 (t u : Nat) (ts : Tmps) (σ : Heap) : resultsA [.tmp t, .tmp u] ts σ = some (.tuple [tmpOf ts t, tmpOf ts u]) := rfl

theorem tab11 : fnTab 11 = some a11 := by kernel_rfl
theorem tab12 : fnTab 12 = some a12 := by kernel_rfl
theorem tab10 : fnTab 10 = some a10 := by kernel_rfl
theorem tab6 : fnTab 6 = some a6 := by kernel_rfl
theorem tab5 : fnTab 5 = some a5 := by kernel_rfl
theorem tab3 : fnTab 3 = some a3 := by kernel_rfl

theorem e11 (R m : Nat) (n : Int) (σ : Heap) : evCall fnTab R (m + 1) 11 [.int .i64 n] σ = .val (.bool (decide (0 ≤ n) && decide (n ≤ 1000000000000))) σ := by
  by_cases h0 : 0 ≤ n
  · apply call_of tab11 rfl
    case hb =>
      show evCode _ R a11.body ⟨S [(0, .int .i64 n)], []⟩ σ = _
      apply cy_seq
      · (apply cy_ops; simp only [sy_nil, sy_mov, sy_const]; rfl)
      · apply cy_seq
        · (apply cy_ops; simp only [sy_nil, sy_mov, sy_exec, sy_guard, sy_wanted, sy_wB, sy_val, sy_tmp, sy_const, sy_of, sy_move, sy_bin, sy_pick, sy_pickT, sy_leq, sy_geq, sy_intLe, S_same, S_ne, cond_true, Nat.reduceLT, Nat.reduceEqDiff, ne_eq, not_false_eq_true, beq_self_eq_true, decide_true, h0]; rfl)
        · exact cy_ret
    case hr =>
      show resultsA [.tmp 2] _ _ = _
      (simp only [res1, S_same, Bool.true_and, Nat.reduceLT, decide_true, h0])
    case hn => exact Nat.le_refl _
  · apply call_of tab11 rfl
    case hb =>
      show evCode _ R a11.body ⟨S [(0, .int .i64 n)], []⟩ σ = _
      apply cy_seq
      · (apply cy_ops; simp only [sy_nil, sy_mov, sy_const]; rfl)
      · apply cy_seq
        · (apply cy_ops; simp only [sy_nil, sy_mov, sy_exec, sy_guard, sy_wanted, sy_wB, sy_val, sy_tmp, sy_const, sy_of, sy_move, sy_bin, sy_pick, sy_pickF, sy_leq, sy_geq, sy_ft, sy_intLe, S_same, S_ne, cond_false, Nat.reduceLT, Nat.reduceEqDiff, ne_eq, not_false_eq_true, decide_false, h0]; rfl)
        · exact cy_ret
    case hr =>
      show resultsA [.tmp 2] _ _ = _
      (simp only [res1, S_same, Bool.false_and, Nat.reduceLT, decide_false, h0])
    case hn => exact Nat.le_refl _

/-- A part of a valid amount. -/
theorem e12 (R m : Nat) (x r : Int) (σ : Heap) (hx : 0 ≤ x) (hx' : x ≤ 1000000000000) (hr : 0 ≤ r) (hr' : r ≤ 10000) (hw : wrapK .i64 (x * r) = x * r) (hw' : wrapK .i64 (Int.tdiv (x * r) 10000) = Int.tdiv (x * r) 10000) :
    evCall fnTab R (m + 2) 12 [.int .i64 x, .int .i64 r] σ = .val (.tuple [.int .i64 (Int.tdiv (x * r) 10000), .int .i64 0]) σ := by
  have h1 : (r < 0) = False := by simp; omega
  have h2 : (r ≤ 10000) = True := by simp; omega
  have h0 : (0 ≤ r) = True := by simp; omega
  apply call_of tab12 rfl
  case hb =>
    show evCode _ R a12.body ⟨S [(1, .int .i64 r), (0, .int .i64 x)], []⟩ σ = _
    apply cy_seq
    · (apply cy_ops; simp only [sy_nil, sy_mov, sy_const]; rfl)
    · apply cy_seq
      · apply cy_seq
        · (apply cy_ops; simp only [sy_nil, sy_mov, sy_exec, sy_guard, sy_wanted, sy_wB, sy_val, sy_tmp, sy_const, sy_of, sy_move, sy_bin, sy_call, sy_evs0, sy_evs1, sy_pick, sy_pickF, sy_not, sy_notB, sy_lss, sy_gtr, sy_intLe, S_same, S_ne, cond_true, Bool.not_true, Bool.and_true, Nat.reduceLT, Nat.reduceEqDiff, ne_eq, not_false_eq_true, beq_self_eq_true, decide_true, e11, hx, hx', h0, h2]; rfl)
        · apply cy_false
          · (simp only [sy_tmp, S_same, Nat.reduceLT])
          · exact cy_skip
      · apply cy_seq
        · (apply cy_ops; simp only [sy_nil, sy_mov, sy_exec, sy_val, sy_tmp, sy_const, sy_of, sy_bin, sy_mul, sy_q10000, S_same, S_ne, Nat.reduceLT, Nat.reduceEqDiff, ne_eq, not_false_eq_true, hw, hw']; rfl)
        · exact cy_ret
  case hr =>
    show resultsA [.tmp 4, .tmp 5] _ _ = _
    (simp only [res2, S_same, S_ne, Nat.reduceLT, Nat.reduceEqDiff, ne_eq, not_false_eq_true])
  case hn => exact Nat.le_refl _
end Go.Proofs
