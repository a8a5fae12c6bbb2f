/- The evaluator on frames whose integers are not known: equations, one a step. -/
import Derived.Test.YtgiebkbbnjnplaaGreatDoorAbRel
namespace Go.Ab

/-- Temporaries laid one after the other. -/
noncomputable def S : List (Nat × AVal) → Tmps
  | [] => .empty
  | (d, v) :: l => setTmp (S l) d v

theorem S_full : ∀ l, (S l).full 4
  | [] => Tmps.empty_full
  | (d, v) :: l => setTmp_full (S_full l) d v

theorem S_same (d : Nat) (v : AVal) (l : List (Nat × AVal)) (h : d < 256) : tmpOf (S ((d, v) :: l)) d = v := by
  show tmpOf (setTmp (S l) d v) d = v
  rw [tmpOf_setTmp (S_full l) h h, if_pos rfl]
theorem S_ne (d t : Nat) (v : AVal) (l : List (Nat × AVal)) (h : d < 256) (ht : t < 256) (hn : t ≠ d) : tmpOf (S ((d, v) :: l)) t = tmpOf (S l) t := by
  show tmpOf (setTmp (S l) d v) t = _
  rw [tmpOf_setTmp (S_full l) h ht, if_neg hn]

section
variable (call : CallFn) (ts : List (Nat × AVal)) (ds : List (FuncId × List AVal)) (σ : Heap)
theorem sy_nil (a : AAct) : evSteps call [] a σ = .done .normal a σ := rfl
theorem sy_mov (d : Nat) (x : Opd) (l : List Step) : evSteps call (.mov d x :: l) ⟨S ts, ds⟩ σ = evSteps call l ⟨S ((d, x.ev (S ts)) :: ts), ds⟩ σ := rfl
theorem sy_exec (d : Nat) (op : AOp) (l : List Step) : evSteps call (.exec ⟨some d, op, none⟩ :: l) ⟨S ts, ds⟩ σ = afterOp (evOp op call (S ts) σ) (some d) (evSteps call l) ⟨S ts, ds⟩ := rfl
theorem sy_guard (d : Nat) (op : AOp) (t : Nat) (b : Bool) (l : List Step) : evSteps call (.exec ⟨some d, op, some (t, b)⟩ :: l) ⟨S ts, ds⟩ σ =
    bif wantedA (some (t, b)) (S ts) then afterOp (evOp op call (S ts) σ) (some d) (evSteps call l) ⟨S ts, ds⟩ else evSteps call l ⟨S ((d, .undef) :: ts), ds⟩ σ := by
  show (Bool.casesOn (wantedA (some (t, b)) (S ts)) (evSteps call l ⟨S ((d, .undef) :: ts), ds⟩ σ) (afterOp (evOp op call (S ts) σ) (some d) (evSteps call l) ⟨S ts, ds⟩) : Res) = _
  cases wantedA (some (t, b)) (S ts) <;> rfl
def wB (b : Bool) : AVal → Bool
  | .bool c => c == b
  | _ => false
theorem sy_wanted (t : Nat) (b : Bool) (u : Tmps) : wantedA (some (t, b)) u = wB b (tmpOf u t) := by
  simp only [wantedA, wB]
  cases tmpOf u t <;> rfl
theorem sy_wB (b c : Bool) : wB b (.bool c) = (c == b) := rfl
theorem sy_val (v : AVal) (d : Nat) (k : RunF) : afterOp (.val v σ) (some d) k ⟨S ts, ds⟩ = k ⟨S ((d, v) :: ts), ds⟩ σ := rfl
theorem sy_tmp (t : Nat) (u : Tmps) : (Opd.tmp t).ev u = tmpOf u t := rfl
theorem sy_const (v : AVal) (u : Tmps) : (Opd.const v).ev u = v := rfl
theorem sy_of (v : AVal) : Out.of (some v) σ = .val v σ := rfl
theorem sy_move (x : Opd) (u : Tmps) : evOp (.move x) call u σ = .val (x.ev u) σ := rfl
theorem sy_bin (op : BinOp) (x y : Opd) (u : Tmps) : evOp (.bin op x y) call u σ = .of (binFast op (x.ev u) (y.ev u)) σ := rfl
theorem sy_call (f : FuncId) (xs : List Opd) (u : Tmps) : evOp (.call f xs) call u σ = call f (evs xs u) σ := rfl
theorem sy_evs0 (u : Tmps) : evs [] u = [] := rfl
theorem sy_evs1 (x : Opd) (xs : List Opd) (u : Tmps) : evs (x :: xs) u = x.ev u :: evs xs u := rfl
def pickB (c : AVal) (a b : AVal) (σ : Heap) : Out :=
  match c with
  | .bool true => .val a σ
  | .bool false => .val b σ
  | _ => .fail
theorem sy_pick (c a b : Opd) (u : Tmps) : evOp (.pick c a b) call u σ = pickB (c.ev u) (a.ev u) (b.ev u) σ := by
  show oPick c a b u σ = _
  unfold oPick pickB
  rfl
theorem sy_pickT (a b : AVal) : pickB (.bool true) a b σ = .val a σ := rfl
theorem sy_pickF (a b : AVal) : pickB (.bool false) a b σ = .val b σ := rfl
theorem sy_not (x : Opd) (u : Tmps) : evOp (.un .not x) call u σ = .of (unA .not (x.ev u)) σ := rfl
theorem sy_notB (b : Bool) : unA .not (.bool b) = some (.bool b.not) := rfl
noncomputable def minV (x y : AVal) (σ : Heap) : Out :=
  match x, y with
  | .int k a, .int _ b => .val (.int k (Bool.casesOn (intLe a b) b a)) σ
  | _, _ => .fail
noncomputable def maxV (x y : AVal) (σ : Heap) : Out :=
  match x, y with
  | .int k a, .int _ b => .val (.int k (Bool.casesOn (intLe b a) b a)) σ
  | _, _ => .fail
theorem sy_min (x y : Opd) (u : Tmps) : evOp (.min x y) call u σ = minV (x.ev u) (y.ev u) σ := rfl
theorem sy_max (x y : Opd) (u : Tmps) : evOp (.max x y) call u σ = maxV (x.ev u) (y.ev u) σ := rfl
noncomputable def extV (x : AVal) (i : Nat) (σ : Heap) : Out :=
  match x with
  | .tuple vs => .of (nth? vs i) σ
  | _ => .fail
theorem sy_ext (x : Opd) (i : Nat) (u : Tmps) : evOp (.extract x i) call u σ = extV (x.ev u) i σ := rfl
theorem sy_ext0 (a b : AVal) : extV (.tuple [a, b]) 0 σ = .val a σ := rfl
theorem sy_ext1 (a b : AVal) : extV (.tuple [a, b]) 1 σ = .val b σ := rfl
theorem sy_lss (a b : Int) : binFast .lss (.int .i64 a) (.int .i64 b) = some (.bool (intLe b a).not) := rfl
theorem sy_leq (a b : Int) : binFast .leq (.int .i64 a) (.int .i64 b) = some (.bool (intLe a b)) := rfl
theorem sy_gtr (a b : Int) : binFast .gtr (.int .i64 a) (.int .i64 b) = some (.bool (intLe a b).not) := rfl
theorem sy_geq (a b : Int) : binFast .geq (.int .i64 a) (.int .i64 b) = some (.bool (intLe b a)) := rfl
theorem sy_eql (a b : Int) : binFast .eql (.int .i64 a) (.int .i64 b) = some (.bool (intEq a b)) := rfl
theorem sy_neq (a b : Int) : binFast .neq (.int .i64 a) (.int .i64 b) = some (.bool (intEq a b).not) := rfl
theorem sy_add (a b : Int) : binFast .add (.int .i64 a) (.int .i64 b) = some (.int .i64 (wrapK .i64 (a + b))) := rfl
theorem sy_sub (a b : Int) : binFast .sub (.int .i64 a) (.int .i64 b) = some (.int .i64 (wrapK .i64 (a - b))) := rfl
theorem sy_mul (a b : Int) : binFast .mul (.int .i64 a) (.int .i64 b) = some (.int .i64 (wrapK .i64 (a * b))) := rfl
end

theorem sy_intLe (a b : Int) : intLe a b = decide (a ≤ b) := by
  cases a <;> cases b <;> rename_i m n <;> try simp only [Int.ofNat_eq_natCast]
  · show Nat.ble m n = _
    rw [Bool.eq_iff_iff]
    simp
  · show false = _
    symm; rw [decide_eq_false_iff_not]; omega
  · show true = _
    symm; rw [decide_eq_true_iff]; omega
  · show Nat.ble n m = _
    rw [Bool.eq_iff_iff]
    simp
    omega
theorem sy_intEq (a b : Int) : intEq a b = decide (a = b) := by
  cases a <;> cases b <;> rename_i m n <;> try simp only [Int.ofNat_eq_natCast]
  · show Nat.beq m n = _
    rw [Bool.eq_iff_iff]
    simp
    omega
  · show false = _
    symm; rw [decide_eq_false_iff_not]; omega
  · show false = _
    symm; rw [decide_eq_false_iff_not]; omega
  · show Nat.beq m n = _
    rw [Bool.eq_iff_iff]
    simp
theorem in64_of {a : Int} (h : -9223372036854775808 ≤ a) (h' : a ≤ 9223372036854775807) : in64 a = true := by
  cases a <;> rename_i m <;> try simp only [Int.ofNat_eq_natCast] at h h'
  · show Nat.ble m 9223372036854775807 = true
    rw [Nat.ble_eq]; omega
  · show Nat.ble m 9223372036854775807 = true
    rw [Nat.ble_eq]; omega
theorem wrap64 {a : Int} (h : -9223372036854775808 ≤ a) (h' : a ≤ 9223372036854775807) : wrapK .i64 a = a := by
  show (Bool.casesOn (in64 a) (IntKind.i64.wrap a) a : Int) = a
  rw [in64_of h h']
theorem sy_quo (a b : Int) (hb : intEq b 0 = false) : binFast .quo (.int .i64 a) (.int .i64 b) = some (.int .i64 (wrapK .i64 (Int.tdiv a b))) := by
  show (Bool.casesOn (intEq b 0) (some (.int .i64 (wrapK .i64 (Int.tdiv a b)))) none : Option AVal) = _
  rw [hb]
theorem minV_eq (σ : Heap) (a b : Int) : minV (.int .i64 a) (.int .i64 b) σ = .val (.int .i64 (min a b)) σ := by
  show Out.val (.int .i64 (Bool.casesOn (intLe a b) b a)) σ = _
  rw [sy_intLe]
  by_cases h : a ≤ b
  · rw [decide_eq_true h, Int.min_eq_left h]
  · rw [decide_eq_false h, Int.min_eq_right (by omega)]
theorem maxV_eq (σ : Heap) (a b : Int) : maxV (.int .i64 a) (.int .i64 b) σ = .val (.int .i64 (max a b)) σ := by
  show Out.val (.int .i64 (Bool.casesOn (intLe b a) b a)) σ = _
  rw [sy_intLe]
  by_cases h : b ≤ a
  · rw [decide_eq_true h, Int.max_eq_left h]
  · rw [decide_eq_false h, Int.max_eq_right (by omega)]

/-! The constructs. -/
section
variable {call : CallFn} {R : Nat} {a a1 : AAct} {σ σ1 : Heap} {r : Res} {x y : ACode}
theorem cy_seq (h : evCode call R x a σ = .done .normal a1 σ1) (h2 : evCode call R y a1 σ1 = r) : evCode call R (.seq x y) a σ = r := by
  show (match evCode call R x a σ with | .done .normal a' σ' => evCode call R y a' σ' | r => r) = r
  rw [h]; exact h2
theorem cy_seq_ret (h : evCode call R x a σ = .done .ret a1 σ1) : evCode call R (.seq x y) a σ = .done .ret a1 σ1 := by
  show (match evCode call R x a σ with | .done .normal a' σ' => evCode call R y a' σ' | r => r) = _
  rw [h]
theorem cy_seq_exit {i : Nat} (h : evCode call R x a σ = .done (.exit i) a1 σ1) : evCode call R (.seq x y) a σ = .done (.exit i) a1 σ1 := by
  show (match evCode call R x a σ with | .done .normal a' σ' => evCode call R y a' σ' | r => r) = _
  rw [h]
theorem cy_ops {l : List Step} (h : evSteps call l a σ = r) : evCode call R (.ops l) a σ = r := h
theorem cy_true {c : Opd} (hc : c.ev a.tmps = .bool true) (h : evCode call R x a σ = r) : evCode call R (.cond c x y) a σ = r := by
  show (match c.ev a.tmps with | .bool true => evCode call R x a σ | .bool false => evCode call R y a σ | _ => .fail) = r
  rw [hc]; exact h
theorem cy_false {c : Opd} (hc : c.ev a.tmps = .bool false) (h : evCode call R y a σ = r) : evCode call R (.cond c x y) a σ = r := by
  show (match c.ev a.tmps with | .bool true => evCode call R x a σ | .bool false => evCode call R y a σ | _ => .fail) = r
  rw [hc]; exact h
theorem cy_skip : evCode call R .skip a σ = .done .normal a σ := rfl
theorem cy_ret : evCode call R .ret a σ = .done .ret a σ := rfl
theorem cy_exit {i : Nat} : evCode call R (.exit i) a σ = .done (.exit i) a σ := rfl
theorem cy_block {i : Nat} (h : evCode call R x a σ = .done .normal a1 σ1) : evCode call R (.block i x) a σ = .done .normal a1 σ1 := by
  show (match evCode call R x a σ with | .done (.exit id') a' σ' => Bool.casesOn (Nat.beq id' i) (.done (.exit id') a' σ') (.done .normal a' σ') | r => r : Res) = _
  rw [h]
theorem cy_block_exit {i : Nat} (h : evCode call R x a σ = .done (.exit i) a1 σ1) : evCode call R (.block i x) a σ = .done .normal a1 σ1 := by
  show (match evCode call R x a σ with | .done (.exit id') a' σ' => Bool.casesOn (Nat.beq id' i) (.done (.exit id') a' σ') (.done .normal a' σ') | r => r : Res) = _
  rw [h]
  show (Bool.casesOn (Nat.beq i i) (.done (.exit i) a1 σ1) (.done .normal a1 σ1) : Res) = _
  rw [Nat.beq_refl]
theorem cy_block_other {i j : Nat} (hj : Nat.beq j i = false) (h : evCode call R x a σ = .done (.exit j) a1 σ1) : evCode call R (.block i x) a σ = .done (.exit j) a1 σ1 := by
  show (match evCode call R x a σ with | .done (.exit id') a' σ' => Bool.casesOn (Nat.beq id' i) (.done (.exit id') a' σ') (.done .normal a' σ') | r => r : Res) = _
  rw [h]
  show (Bool.casesOn (Nat.beq j i) (.done (.exit j) a1 σ1) (.done .normal a1 σ1) : Res) = _
  rw [hj]
/-- The rounds that are left of a loop. -/
noncomputable def roundsL (call : CallFn) (R : Nat) (x : ACode) (m : Nat) : RunF := evLoop (evCode call R x) m
theorem cy_loop (h : roundsL call R x R a σ = r) : evCode call R (.loop x) a σ = r := h
theorem cy_round {m : Nat} (h : evCode call R x a σ = .done .normal a1 σ1) (h2 : roundsL call R x m a1 σ1 = r) : roundsL call R x (m + 1) a σ = r := by
  show (match evCode call R x a σ with | .done .normal a' σ' => evLoop (evCode call R x) m a' σ' | r => r) = r
  rw [h]; exact h2
theorem cy_round_exit {m i : Nat} (h : evCode call R x a σ = .done (.exit i) a1 σ1) : roundsL call R x (m + 1) a σ = .done (.exit i) a1 σ1 := by
  show (match evCode call R x a σ with | .done .normal a' σ' => evLoop (evCode call R x) m a' σ' | r => r) = _
  rw [h]
end

/-- A call, by its body. -/
theorem call_of {tbl : FuncId → Option AFunc} {R m : Nat} {f : FuncId} {fn : AFunc} {args : List AVal} {σ σ' : Heap} {ts : Tmps} {v : AVal} (hf : tbl f = some fn) (hl : Nat.ble (len args) 256 = true)
    (hb : evCode (evCall tbl R m) R fn.body (frameOf fn args) σ = .done .ret ⟨ts, []⟩ σ') (hr : resultsA fn.results ts σ' = some v) (hn : σ.next ≤ σ'.next) : evCall tbl R (m + 1) f args σ = .val v σ' := by
  show guardN σ (callStep tbl R (evCall tbl R m) f args σ) = _
  have : callStep tbl R (evCall tbl R m) f args σ = .val v σ' := by
    unfold callStep
    rw [hf]
    dsimp only
    rw [hl]
    dsimp only
    rw [hb]
    show returnA tbl (evCall tbl R m) fn ⟨ts, []⟩ σ' = _
    unfold returnA
    show Out.of (resultsA fn.results ts σ') σ' = _
    rw [hr]
    rfl
  rw [this]
  show (Bool.casesOn (Nat.ble σ.next σ'.next) .fail (.val v σ') : Out) = _
  rw [Nat.ble_eq_true_of_le hn]

end Go.Ab
