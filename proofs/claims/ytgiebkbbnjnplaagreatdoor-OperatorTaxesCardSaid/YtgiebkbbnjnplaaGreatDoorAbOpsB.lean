/- Operations, one by one. Part B: numbers, texts, comparisons, conversions, closures, new maps and slices. -/
import Derived.Test.YtgiebkbbnjnplaaGreatDoorAbOpsA
import Derived.Laws.Strings
import Derived.Laws.StructEq
import Derived.Lib.SmallJoins
namespace Go.Ab

theorem ble_iff {a b : Nat} : Nat.ble a b = true ↔ a ≤ b := by simp

theorem intEq_eq (a b : Int) : intEq a b = decide (a = b) := by
  cases a <;> cases b <;> simp [intEq] <;> rename_i m n <;> (cases h : Nat.beq m n <;> first
    | (have := Nat.eq_of_beq_eq_true h; simp [this])
    | (have := Nat.ne_of_beq_eq_false h; simp [this]; omega)
    | (have := Nat.ne_of_beq_eq_false h; simp [this]))

theorem intLe_eq (a b : Int) : intLe a b = decide (a ≤ b) := by
  cases a <;> cases b <;> rename_i m n
  · show Nat.ble m n = _
    by_cases h : m ≤ n
    · rw [ble_iff.2 h]; symm; simp; omega
    · have : Nat.ble m n = false := by rw [Bool.eq_false_iff]; exact fun e => h (ble_iff.1 e)
      rw [this]; symm; simp; omega
  · show false = _
    symm; simp; omega
  · show true = _
    symm; simp; omega
  · show Nat.ble n m = _
    by_cases h : n ≤ m
    · rw [ble_iff.2 h]; symm; simp; omega
    · have : Nat.ble n m = false := by rw [Bool.eq_false_iff]; exact fun e => h (ble_iff.1 e)
      rw [this]; symm; simp; omega

theorem strEq_eq : ∀ (a b : List UInt8), strEq a b = decide (a = b)
  | [], [] => rfl
  | [], _ :: _ => rfl
  | _ :: _, [] => rfl
  | x :: a, y :: b => by
    have h : strEq (x :: a) (y :: b) = (Bool.casesOn (Nat.beq x.toNat y.toNat) false (strEq a b) : Bool) := rfl
    rw [h, strEq_eq a b]
    cases hb : Nat.beq x.toNat y.toNat with
    | true =>
      have : x = y := UInt8.toNat_inj.1 (Nat.eq_of_beq_eq_true hb)
      simp [this]
    | false =>
      have : x ≠ y := fun e => Nat.ne_of_beq_eq_false hb (by rw [e])
      simp [this]

theorem strEq_beq (a b : List UInt8) : strEq a b = (a == b) := by
  rw [strEq_eq, Bool.eq_iff_iff]
  simp

theorem kindEq_true {j k : IntKind} (h : kindEq j k = true) : j = k := by
  cases j <;> cases k <;> first | rfl | cases h

theorem in64_eq {n : Int} (h : in64 n = true) : -9223372036854775808 ≤ n ∧ n ≤ 9223372036854775807 := by
  cases n with
  | ofNat m => have h' := ble_iff.1 (show Nat.ble m 9223372036854775807 = true from h); simp; omega
  | negSucc m => have h' := ble_iff.1 (show Nat.ble m 9223372036854775807 = true from h); omega

theorem wrapK_eq (k : IntKind) (n : Int) : wrapK k n = k.wrap n := by
  cases k <;> try rfl
  show (Bool.casesOn (in64 n) (IntKind.i64.wrap n) n : Int) = IntKind.i64.wrap n
  cases h : in64 n with
  | false => rfl
  | true =>
    obtain ⟨h1, h2⟩ := in64_eq h
    have key : ∀ W M : Int, W = 18446744073709551616 → M = 9223372036854775808 → n = (if (true && decide (n % W ≥ M)) = true then n % W - W else n % W) := by
      intro W M hW hM
      subst hW hM
      by_cases hc : n % 18446744073709551616 ≥ 9223372036854775808
      · rw [if_pos (by simpa using hc)]; omega
      · rw [if_neg (by simpa using hc)]; omega
    exact key _ _ rfl rfl

section
variable {P : Program} {μ : Mu} {σ : Heap} {w : World} {ts : Tmps} {ρ : Operand → Value}

/-- Two operands' sum, difference and so on. -/
theorem run_binInt (op : BinOp) (k : IntKind) (a b : Int) (t : TypeId) {v : AVal} (h : binInt op k a b = some v) : ∃ x, (binOp op t (.int k a) (.int k b)).run P w = .ok x w ∧ VRel μ v x := by
  unfold binInt at h
  split at h
  · cases h; exact ⟨.int k (k.wrap (a + b)), by simp [binOp, Op.intArith], by rw [wrapK_eq]; exact VRel.mkInt _ _⟩
  · cases h; exact ⟨.int k (k.wrap (a - b)), by simp [binOp, Op.intArith], by rw [wrapK_eq]; exact VRel.mkInt _ _⟩
  · cases h; exact ⟨.int k (k.wrap (a * b)), by simp [binOp, Op.intArith], by rw [wrapK_eq]; exact VRel.mkInt _ _⟩
  · rw [intEq_eq] at h
    by_cases hb : b = 0
    · simp [hb] at h
    · simp only [hb, decide_false] at h
      cases h
      exact ⟨.int k (k.wrap (a.tdiv b)), by simp [binOp, Op.intDiv, hb], by rw [wrapK_eq]; exact VRel.mkInt _ _⟩
  · rw [intEq_eq] at h
    by_cases hb : b = 0
    · simp [hb] at h
    · simp only [hb, decide_false] at h
      cases h
      exact ⟨.int k (a.tmod b), by simp [binOp, Op.intDiv, hb], VRel.mkInt _ _⟩
  · cases h; exact ⟨.int k (k.wrap (BitVec.ofInt k.bits a &&& BitVec.ofInt k.bits b).toNat), by simp only [binOp, ne_eq, not_true_eq_false, if_false, Op.intBits]; rfl, VRel.mkInt _ _⟩
  · cases h; exact ⟨.int k (k.wrap (BitVec.ofInt k.bits a ||| BitVec.ofInt k.bits b).toNat), by simp only [binOp, ne_eq, not_true_eq_false, if_false, Op.intBits]; rfl, VRel.mkInt _ _⟩
  · cases h; exact ⟨.int k (k.wrap (BitVec.ofInt k.bits a ^^^ BitVec.ofInt k.bits b).toNat), by simp only [binOp, ne_eq, not_true_eq_false, if_false, Op.intBits]; rfl, VRel.mkInt _ _⟩
  · cases h; exact ⟨.int k (k.wrap (BitVec.ofInt k.bits a &&& ~~~BitVec.ofInt k.bits b).toNat), by simp only [binOp, ne_eq, not_true_eq_false, if_false, Op.intBits]; rfl, VRel.mkInt _ _⟩
  · cases h; exact ⟨.bool (a == b), by simp [binOp, Op.intCmp], by rw [intEq_eq]; simp only [VRel]; congr 1⟩
  · cases h; exact ⟨.bool (a != b), by simp [binOp, Op.intCmp], by rw [intEq_eq]; simp only [VRel]; congr 1⟩
  · cases h; exact ⟨.bool (a < b), by simp [binOp, Op.intCmp], by rw [intLe_eq]; simp only [VRel]; congr 1; rw [← decide_not]; simp⟩
  · cases h; exact ⟨.bool (a ≤ b), by simp [binOp, Op.intCmp], by rw [intLe_eq]; simp only [VRel]⟩
  · cases h; exact ⟨.bool (a > b), by simp [binOp, Op.intCmp], by rw [intLe_eq]; simp only [VRel]; congr 1; rw [← decide_not]; simp⟩
  · cases h; exact ⟨.bool (a ≥ b), by simp [binOp, Op.intCmp], by rw [intLe_eq]; simp only [VRel]⟩
  · cases h

theorem run_shiftInt (op : BinOp) (k k' : IntKind) (a b : Int) (t : TypeId) (hop : op = .shl ∨ op = .shr) {v : AVal} (h : shiftInt op k a b = some v) :
    ∃ x, (binOp op t (.int k a) (.int k' b)).run P w = .ok x w ∧ VRel μ v x := by
  unfold shiftInt at h
  split at h
  · rename_i n
    have hn : (Bool.casesOn (Nat.ble n k.bits) k.bits n : Nat) = Nat.min n k.bits := by
      cases hb : Nat.ble n k.bits with
      | true => have := ble_iff.1 hb; show n = min n k.bits; omega
      | false =>
        have : ¬ n ≤ k.bits := fun e => by rw [ble_iff.2 e] at hb; cases hb
        show k.bits = min n k.bits; omega
    simp only [hn] at h
    rcases hop with rfl | rfl
    · cases h
      refine ⟨_, ?_, VRel.mkInt _ _⟩
      simp only [binOp, Op.shift]
      rw [if_neg (by simp)]
      simp
    · cases h
      refine ⟨_, ?_, VRel.mkInt _ _⟩
      simp only [binOp, Op.shift]
      rw [if_neg (by simp)]
      simp
  · cases h

theorem run_binStr (op : BinOp) (a b : List UInt8) (t : TypeId) {v : AVal} (h : binStr op a b = some v) :
    ∃ x, (binOp op t (.string ⟨a.toArray⟩) (.string ⟨b.toArray⟩)).run P w = .ok x w ∧ VRel μ v x := by
  have hs : ∀ op', binOp op' t (.string ⟨a.toArray⟩) (.string ⟨b.toArray⟩) = Op.stringOp op' ⟨a.toArray⟩ ⟨b.toArray⟩ := by
    intro op'
    cases op' <;> rfl
  rw [hs]
  have e1 : ∀ l : List UInt8, (ByteArray.mk l.toArray).toList = l := fun l => by rw [ByteArray.toList_eq]
  unfold binStr at h
  split at h
  · cases hb : Nat.ble (Nat.add (len a) (len b)) 4294967296 with
    | false => rw [hb] at h; cases h
    | true =>
      rw [hb] at h
      cases h
      have hl := ble_iff.1 hb
      rw [len_eq, len_eq] at hl
      have hsz : ¬ (((ByteArray.mk a.toArray).size + (ByteArray.mk b.toArray).size : Nat) : Int) > IntKind.i64.max := by
        have : IntKind.i64.max = 9223372036854775807 := rfl
        have h1 : (ByteArray.mk a.toArray).size = a.length := by simp [ByteArray.size]
        have h2 : (ByteArray.mk b.toArray).size = b.length := by simp [ByteArray.size]
        rw [h1, h2, this]
        have : a.length + b.length ≤ 4294967296 := hl
        omega
      refine ⟨.string (⟨a.toArray⟩ ++ ⟨b.toArray⟩), ?_, ?_⟩
      · simp only [Op.stringOp]
        rw [if_neg hsz]
        rfl
      · simp only [VRel, ByteArray.mk_append_mk]
  · cases h; exact ⟨.bool (a == b), by simp [Op.stringOp, e1], by rw [strEq_beq]; simp only [VRel]⟩
  · cases h; exact ⟨.bool (!(a == b)), by simp [Op.stringOp, e1], by rw [strEq_beq]; simp only [VRel]⟩
  · cases h; exact ⟨.bool (Op.bytesLess a b), by simp [Op.stringOp, e1], by simp only [VRel]⟩
  · cases h; exact ⟨.bool (Op.bytesLess a b || a == b), by simp [Op.stringOp, e1], by rw [strEq_beq]; simp only [VRel]⟩
  · cases h; exact ⟨.bool (!(Op.bytesLess a b || a == b)), by simp [Op.stringOp, e1], by rw [strEq_beq]; simp only [VRel]⟩
  · cases h; exact ⟨.bool (!Op.bytesLess a b), by simp [Op.stringOp, e1], by simp only [VRel]⟩
  · cases h

/-- No look ahead of '==' at values that are neither nil interfaces nor aggregates. -/
theorem run_eqGuard_plain (op : BinOp) (t : TypeId) (x y : Operand) (a b : Value) (h : a ≠ .nilIface ∨ b ≠ .nilIface) (h' : (∀ cs, a ≠ .agg cs) ∨ (∀ cs, b ≠ .agg cs)) :
    (eqGuard op t x y a b).run P w = .ok () w := by
  have key : ∀ X : Sem Unit, ∀ Y : Array Value → Array Value → Sem Unit, (match a, b with
      | .nilIface, .nilIface => X
      | .agg cs, .agg ds => Y cs ds
      | _, _ => (pure () : Sem Unit)) = pure () := by
    intro X Y
    split
    · rcases h with h | h <;> exact absurd rfl h
    · rename_i cs ds
      rcases h' with h' | h'
      · exact absurd rfl (h' cs)
      · exact absurd rfl (h' ds)
    · rfl
  unfold eqGuard
  cases op <;> first | rfl | (simp only [Bool.not_true, Bool.false_eq_true, if_false]; exact congrArg (fun m : Sem Unit => m.run P w) (key _ _))

/-- Two operands under one operator. -/
theorem binFast_eq (op : BinOp) (x y : AVal) : binFast op x y = binOpA op x y := by
  cases x
  case int k a => cases y <;> cases op <;> rfl
  case str a => cases y <;> cases op <;> rfl
  all_goals (cases op <;> rfl)

theorem run_binOpA (op : BinOp) (t : TypeId) (x y : Operand) {a b : AVal} {va vb : Value} (ha : VRel μ a va) (hb : VRel μ b vb) {v : AVal}
    (h : binOpA op a b = some v) : ∃ z, ((do eqGuard op t x y va vb; binOp op t va vb) : Sem Value).run P w = .ok z w ∧ VRel μ v z := by
  unfold binOpA at h
  split at h
  · rename_i k m k' n
    rw [ha.int, hb.int]
    simp only [Sem.run_bind, run_eqGuard_plain (P := P) (w := w) op t x y (.int k m) (.int k' n) (.inl (by simp)) (.inl (by simp)), Result.andThen_ok]
    split at h
    · exact run_shiftInt _ k k' m n t (.inl rfl) h
    · exact run_shiftInt _ k k' m n t (.inr rfl) h
    · cases hk : kindEq k k' with
      | false => rw [hk] at h; cases h
      | true =>
        rw [hk] at h
        cases kindEq_true hk
        exact run_binInt op k m n t h
  · rename_i s s'
    rw [ha.str, hb.str]
    simp only [Sem.run_bind, run_eqGuard_plain (P := P) (w := w) op t x y (.string ⟨s.toArray⟩) (.string ⟨s'.toArray⟩) (.inl (by simp)) (.inl (by simp)), Result.andThen_ok]
    exact run_binStr op s s' t h
  · cases h

theorem good_bin (r : Rel μ σ w) (h : HOpd P μ ts ρ) {op : BinOp} {t : TypeId} {x y : Operand} {x' y' : Opd} (hx : compOpd P x = some x') (hy : compOpd P y = some y') :
    Good μ σ w (oBin op x' y' ts σ) ((do pure (Next.value (← (do eqGuard op t x y (ρ x) (ρ y); binOp op t (ρ x) (ρ y) : Sem Value))) : Sem Next).run P w) := by
  unfold oBin
  refine Good.of r fun a ha => ?_
  obtain ⟨z, hz, hr⟩ := run_binOpA (P := P) (w := w) op t x y (h _ _ hx) (h _ _ hy) ((binFast_eq _ _ _).symm.trans ha)
  exact ⟨z, by rw [Sem.run_bind, hz]; rfl, hr⟩

end
end Go.Ab
