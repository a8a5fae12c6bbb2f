/- Operations, one by one. Part E: one operand, conversions, closures, aggregates, new maps and slices. -/
import Derived.Test.YtgiebkbbnjnplaaGreatDoorAbOpsD
namespace Go.Ab
section
variable {P : Program} {μ : Mu} {σ : Heap} {w : World} {ts : Tmps} {ρ : Operand → Value}

theorem good_un (r : Rel μ σ w) (h : HOpd P μ ts ρ) {op : UnOp} {x : Operand} {x' : Opd} (hx : compOpd P x = some x') :
    Good μ σ w (oUn op x' ts σ) ((do pure (Next.value (← Op.unary op (ρ x))) : Sem Next).run P w) := by
  have hr := h _ _ hx
  unfold oUn
  refine Good.of r fun a ha => ?_
  unfold unA at ha
  split at ha
  · rename_i k n e
    rw [e] at hr
    cases ha
    refine ⟨.int k (k.wrap (0 - n)), ?_, ?_⟩
    · rw [hr.int]; simp [Op.unary, Op.intArith]
    · rw [wrapK_eq]; exact VRel.mkInt _ _
  · rename_i k n e
    rw [e] at hr
    obtain ⟨z, hz, hv⟩ := run_binInt (P := P) (w := w) (μ := μ) .xor k _ n 0 ha
    refine ⟨z, ?_, hv⟩
    rw [hr.int]
    have : Op.unary .xor (.int k n) = binOp .xor 0 (.int k (if k.signed then -1 else k.max)) (.int k n) := by simp [Op.unary, binOp]
    rw [this, Sem.run_bind, hz]
    rfl
  · rename_i b e
    rw [e] at hr
    cases ha
    exact ⟨.bool (!b), by rw [hr.bool]; simp [Op.unary], VRel.mkBool _⟩
  · cases ha

theorem good_convInt (r : Rel μ σ w) (h : HOpd P μ ts ρ) {src dst : TypeId} {k k0 : IntKind} (hs : P.underlying src = some (.int k0)) (hd : P.underlying dst = some (.int k)) {x : Operand} {x' : Opd} (hx : compOpd P x = some x') :
    Good μ σ w (oConvInt k x' ts σ) ((do pure (Next.value (← convert src dst (ρ x))) : Sem Next).run P w) := by
  have hr := h _ _ hx
  unfold oConvInt
  split
  · rename_i j n e
    rw [e] at hr
    refine Good.val r (x := .int k (k.wrap n)) ?_ (by rw [wrapK_eq]; exact VRel.mkInt _ _)
    rw [hr.int]
    simp [convert, run_underlying hs, run_underlying hd, Conv.intToInt]
  · trivial

theorem good_convId (r : Rel μ σ w) (h : HOpd P μ ts ρ) {src dst : TypeId} (hs : P.underlying src = some .string) (hd : P.underlying dst = some .string) {x : Operand} {x' : Opd} (hx : compOpd P x = some x') :
    Good μ σ w (oConvId x' ts σ) ((do pure (Next.value (← convert src dst (ρ x))) : Sem Next).run P w) := by
  have hr := h _ _ hx
  unfold oConvId
  split
  · rename_i s e
    rw [e] at hr
    refine Good.val r (x := .string ⟨s.toArray⟩) ?_ (VRel.mkStr _)
    rw [hr.str]
    simp [convert, run_underlying hs, run_underlying hd]
  · trivial

theorem good_mkIface (r : Rel μ σ w) (h : HOpd P μ ts ρ) {t : TypeId} {d : TypeDesc} (ht : P.underlying t = some d) (hd : ∀ ms, d ≠ .interface ms) {x : Operand} {x' : Opd} (hx : compOpd P x = some x') :
    Good μ σ w (oMkIface t x' ts σ) ((do pure (Next.value (← Instr.makeInterface t (ρ x))) : Sem Next).run P w) := by
  refine Good.val r (x := .iface t (ρ x)) ?_ (by simp only [VRel]; exact ⟨_, rfl, h _ _ hx⟩)
  simp only [Instr.makeInterface, Sem.run_bind, run_underlying ht, Result.andThen_ok]
  cases d <;> first | rfl | (exact (hd _ rfl).elim)

theorem good_mkFunc (r : Rel μ σ w) (h : HOpd P μ ts ρ) {f : FuncId} {first caps : Array Operand} (hf : first.size = 0) {cs : List Opd} (hc : compOpds P caps = some cs) :
    Good μ σ w (oMkFunc f cs ts σ) ((do pure (Next.value (← Instr.makeFunc (.func f) (first.map ρ) (caps.map ρ))) : Sem Next).run P w) := by
  have : first = #[] := Array.size_eq_zero_iff.1 hf
  subst this
  refine Good.val r (x := .func (.func f) #[] (caps.map ρ)) ?_ (by simp only [VRel]; exact ⟨_, rfl, hopds h hc⟩)
  simp [Instr.makeFunc]

theorem good_mkMap (r : Rel μ σ w) {t : TypeId} : Good μ σ w (oMkMap ts σ) ((do pure (Next.value (← Instr.makeMap t none)) : Sem Next).run P w) := by
  obtain ⟨a, b⟩ := r.new (.map []) (.map #[] 0) ⟨w.heap.size, 0, 0⟩ rfl ⟨rfl, #[], 0, by simp, rfl, fun i k v hi => by simp at hi⟩
  refine ⟨_, _, .map (some w.heap.size), .inl ?_, a, b, ?_⟩
  · simp [Instr.makeMap]
  · simp only [VRel]
    exact ⟨⟨w.heap.size, 0, 0⟩, by simp [Mu.put], rfl⟩

theorem repN_eq (z : List AVal) : ∀ n, repN z n = (List.replicate n z).flatten
  | 0 => rfl
  | n + 1 => by
    have : repN z (n + 1) = z ++ repN z n := rfl
    rw [this, repN_eq z n, List.replicate_succ, List.flatten_cons]

theorem repN_len (z : List AVal) (n : Nat) : (repN z n).length = n * z.length := by
  rw [repN_eq]; simp

theorem repN_get (z : List AVal) : ∀ (n i : Nat), i < n * z.length → (repN z n)[i]? = z[i % z.length]?
  | 0, i, h => by omega
  | n + 1, i, h => by
    have e : repN z (n + 1) = z ++ repN z n := rfl
    rw [e]
    by_cases hi : i < z.length
    · rw [List.getElem?_append_left hi, Nat.mod_eq_of_lt hi]
    · have h' : i - z.length < n * z.length := by rw [Nat.add_mul] at h; omega
      rw [List.getElem?_append_right (by omega), repN_get z n _ h', ← Nat.mod_eq_sub_mod (by omega)]

theorem repN_one (z : List AVal) (h : ∀ a ∈ z, a.oneCell = true) (n : Nat) : ∀ a ∈ repN z n, a.oneCell = true := by
  intro a ha
  rw [repN_eq] at ha
  obtain ⟨l, hl, hal⟩ := List.mem_flatten.1 ha
  rw [List.eq_of_mem_replicate hl] at hal
  exact h a hal

/-- The cells of a row of zero values. -/
theorem zeroRow_rel {z : List AVal} {v : Value} (hv : VRels μ z v.cells.toList) (n k : Nat) (hk : k = n * z.length) :
    VRels μ (repN z n) ((Array.range k).map (fun i => v.cells[i % v.cells.size]!)).toList := by
  have hl : v.cells.size = z.length := by simpa using hv.length
  refine VRels.of (by simp [repN_len, hk]) fun i a ha => ?_
  have hi : i < n * z.length := by have := (List.getElem?_eq_some_iff.1 ha).1; rwa [repN_len] at this
  rw [repN_get z n i hi] at ha
  obtain ⟨x, hx, hr⟩ := hv.get _ a ha
  have hz : 0 < z.length := by
    rcases Nat.eq_zero_or_pos z.length with h0 | h0
    · rw [h0] at hi; omega
    · exact h0
  have hx' : v.cells[i % v.cells.size]? = some x := by rw [hl]; simpa using hx
  refine ⟨x, ?_, hr⟩
  simp only [Array.toList_map, Array.toList_range, List.getElem?_map]
  rw [List.getElem?_range (by omega)]
  simp [getElem!_def, hx']

theorem good_mkSlice (r : Rel μ σ w) (h : HOpd P μ ts ρ) {t e : TypeId} (ht : P.underlying t = some (.slice e)) {i : TypeInfo} (hi : P.info? e = some i) {z : List AVal} (hz : zeroCellsOf P e = some z) (hs : i.size ≠ 0)
    {l c : Operand} {l' c' : Opd} (hl : compOpd P l = some l') (hc : compOpd P c = some c') :
    Good μ σ w (oMkSlice z i.size i.bytes l' c' ts σ) ((do pure (Next.value (← Instr.makeSlice t (ρ l) (ρ c))) : Sem Next).run P w) := by
  have hrl := h _ _ hl
  have hrc := h _ _ hc
  obtain ⟨i', v, hi', hv, hr, hzl, h1⟩ := zeroCellsOf_some hz μ
  rw [hi] at hi'
  cases hi'
  unfold oMkSlice
  split
  · rename_i n m e1 e2
    rw [e1] at hrl
    rw [e2] at hrc
    cases hb : (Nat.ble n m && Nat.ble m 4294967296 && Nat.ble (Nat.mul i.bytes m) 1099511627776) with
    | false => trivial
    | true =>
      simp only [Bool.and_eq_true, ble_iff] at hb
      obtain ⟨⟨b1, b2⟩, b3⟩ := hb
      have b3' : i.bytes * m ≤ 1099511627776 := b3
      have hw1 : IntKind.i64.wrap (Int.ofNat n) = Int.ofNat n := by rw [← wrapK_eq]; show (Bool.casesOn (in64 (Int.ofNat n)) (IntKind.i64.wrap (Int.ofNat n)) (Int.ofNat n) : Int) = _; rw [show in64 (Int.ofNat n) = true from ble_iff.2 (by omega)]
      have hw2 : IntKind.i64.wrap (Int.ofNat m) = Int.ofNat m := by rw [← wrapK_eq]; show (Bool.casesOn (in64 (Int.ofNat m)) (IntKind.i64.wrap (Int.ofNat m)) (Int.ofNat m) : Int) = _; rw [show in64 (Int.ofNat m) = true from ble_iff.2 (by omega)]
      have hmul : m * i.size ≠ 0 ∨ m = 0 := by
        rcases Nat.eq_zero_or_pos m with h0 | h0
        · exact .inr h0
        · exact .inl (Nat.mul_ne_zero (by omega) hs)
      have hzr := zeroRow_rel (μ := μ) hr m (m * i.size) (by rw [hzl])
      have hrl' : (repN z m).length = m * i.size := by rw [repN_len, hzl]
      obtain ⟨μ', ra, ex, em⟩ := r.newCells e (cs := repN z m) (c := (Array.range (m * i.size)).map (fun j => v.cells[j % v.cells.size]!)) (by rw [List.take_of_length_le (by simp [hrl'])]; exact hzr) (by simp [hrl']) (repN_one z h1 m)
      refine ⟨μ', _, .slice (some ⟨w.heap.size, 0, none⟩) n m, .inl ?_, ra, ex, ?_⟩
      · rw [hrl.int, hrc.int]
        have t1 : (typeInfo e).run P w = .ok i w := by simp [typeInfo, hi]
        have s1 : (sizeOf e).run P w = .ok i.size w := by simp [sizeOf, typeInfo, hi]
        have c1 : (decide ((Int.ofNat m) < 0) || decide (((i.bytes : Nat) : Int) * Int.ofNat m > 2 ^ 48)) = false := by
          have e48 : (2 : Int) ^ 48 = 281474976710656 := rfl
          simp only [Bool.or_eq_false_iff, decide_eq_false_iff_not]
          refine ⟨by simp, ?_⟩
          rw [e48]
          have : ((i.bytes : Nat) : Int) * Int.ofNat m = ((i.bytes * m : Nat) : Int) := by simp
          rw [this]
          omega
        simp only [Instr.makeSlice, Sem.run_bind, run_underlying ht, Result.andThen_ok, asInt, asIntOf, Sem.run_pure, t1, hw1, hw2]
        simp only [c1, Bool.false_or]
        rw [if_neg (by simp; omega)]
        simp only [Sem.run_bind, run_askRoom, Result.andThen_ok, s1]
        rcases hmul with hm | hm
        · rw [if_neg (by simpa using hm)]
          simp [run_zeroValue hi hv, newRow]
        · subst hm
          have z1 : (Int.ofNat 0).toNat * i.size = 0 := by simp
          have z2 : 0 * i.size = 0 := by simp
          rw [if_pos z1]
          simp only [z1, z2]
          have zz : ∀ (f g : Nat → Value), (Array.range 0).map f = (Array.range 0).map g := fun _ _ => by simp [Array.range]
          simp [newRow]
          exact congrArg (fun a => w.alloc (.cells a e)) (zz _ _)
      · simp only [VRel]
        refine ⟨_, m, rfl, b1, Nat.le_refl _, fun _ => rfl, _, em, ?_⟩
        right
        exact ⟨rfl, .inl trivial⟩
  · trivial

end
end Go.Ab
