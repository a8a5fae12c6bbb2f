/- What the sorts of operations are good for: some ask nothing of memory, some make a block, none of these defers. -/
import Derived.Test.YtgiebkbbnjnplaaGreatDoorAbDraw
namespace Go.Ab

theorem pureOut {o : AOp} (h : sortOf o = .pure) (call : CallFn) (ts : Tmps) : ∃ r : Option AVal, ∀ σ, evOp o call ts σ = Out.of r σ := by
  cases o <;> first | cases h | skip
  case move x => exact ⟨some _, fun _ => rfl⟩
  case pick c a b =>
    show ∃ r : Option AVal, ∀ σ, oPick c a b ts σ = Out.of r σ
    unfold oPick
    generalize c.ev ts = z
    cases z <;> first | exact ⟨none, fun _ => rfl⟩ | skip
    rename_i b
    cases b <;> exact ⟨some _, fun _ => rfl⟩
  case build z ps =>
    show ∃ r : Option AVal, ∀ σ, oBuild z ps ts σ = Out.of r σ
    unfold oBuild
    generalize fillA ps ts z = r
    cases r
    · exact ⟨none, fun _ => rfl⟩
    · exact ⟨some _, fun _ => rfl⟩
  case nilCheck x =>
    show ∃ r : Option AVal, ∀ σ, oNilCheck x ts σ = Out.of r σ
    unfold oNilCheck
    generalize x.ev ts = z
    cases z <;> first | exact ⟨none, fun _ => rfl⟩ | exact ⟨some _, fun _ => rfl⟩ | skip
    rename_i a
    cases a <;> first | exact ⟨none, fun _ => rfl⟩ | exact ⟨some _, fun _ => rfl⟩
  case bin op x y => exact ⟨_, fun _ => rfl⟩
  case eqCells ng ks x y =>
    show ∃ r : Option AVal, ∀ σ, oEqCells ng ks x y ts σ = Out.of r σ
    unfold oEqCells
    generalize x.ev ts = z1
    generalize y.ev ts = z2
    cases z1 <;> cases z2 <;> first | exact ⟨none, fun _ => rfl⟩ | skip
    rename_i as bs
    dsimp only
    generalize (Nat.beq (len as) (len ks) && Nat.beq (len bs) (len ks)) = b
    generalize eqCellsA ks as bs = r
    cases b <;> cases r <;> first | exact ⟨none, fun _ => rfl⟩ | exact ⟨some _, fun _ => rfl⟩
  case eqBool ng x y =>
    show ∃ r : Option AVal, ∀ σ, oEqBool ng x y ts σ = Out.of r σ
    unfold oEqBool
    generalize x.ev ts = z1
    generalize y.ev ts = z2
    cases z1 <;> cases z2 <;> first | exact ⟨none, fun _ => rfl⟩ | exact ⟨some _, fun _ => rfl⟩
  case eqNil ng nk x y =>
    show ∃ r : Option AVal, ∀ σ, oEqNil ng nk x y ts σ = Out.of r σ
    unfold oEqNil
    generalize eqNilA nk (x.ev ts) (y.ev ts) = r
    cases r <;> first | exact ⟨none, fun _ => rfl⟩ | exact ⟨some _, fun _ => rfl⟩
  case eqPtr ng x y =>
    show ∃ r : Option AVal, ∀ σ, oEqPtr ng x y ts σ = Out.of r σ
    unfold oEqPtr
    generalize x.ev ts = z1
    generalize y.ev ts = z2
    cases z1 <;> first | exact ⟨none, fun _ => rfl⟩ | skip
    rename_i a
    cases a <;> first | exact ⟨none, fun _ => rfl⟩ | skip
    rename_i p
    obtain ⟨b, o⟩ := p
    cases z2 <;> first | exact ⟨none, fun _ => rfl⟩ | skip
    rename_i a
    cases a <;> first | exact ⟨none, fun _ => rfl⟩ | skip
    rename_i q
    obtain ⟨b', o'⟩ := q
    dsimp only
    generalize Nat.beq b b' = t
    cases t <;> first | exact ⟨none, fun _ => rfl⟩ | exact ⟨some _, fun _ => rfl⟩
  case un op x => exact ⟨_, fun _ => rfl⟩
  case convInt k x =>
    show ∃ r : Option AVal, ∀ σ, oConvInt k x ts σ = Out.of r σ
    unfold oConvInt
    generalize x.ev ts = z
    cases z <;> first | exact ⟨none, fun _ => rfl⟩ | exact ⟨some _, fun _ => rfl⟩
  case convId x =>
    show ∃ r : Option AVal, ∀ σ, oConvId x ts σ = Out.of r σ
    unfold oConvId
    generalize x.ev ts = z
    cases z <;> first | exact ⟨none, fun _ => rfl⟩ | exact ⟨some _, fun _ => rfl⟩
  case mkIface t x => exact ⟨some _, fun _ => rfl⟩
  case mkFunc f cs => exact ⟨some _, fun _ => rfl⟩
  case slice e x a b c => exact ⟨_, fun _ => rfl⟩
  case sliceArr n e x a b => exact ⟨_, fun _ => rfl⟩
  case sliceStr x a b => exact ⟨_, fun _ => rfl⟩
  case fieldAddr off x =>
    show ∃ r : Option AVal, ∀ σ, oFieldAddr off x ts σ = Out.of r σ
    unfold oFieldAddr
    generalize x.ev ts = z
    cases z <;> first | exact ⟨none, fun _ => rfl⟩ | skip
    rename_i a
    cases a
    · exact ⟨none, fun _ => rfl⟩
    · exact ⟨some _, fun _ => rfl⟩
  case field off n x =>
    show ∃ r : Option AVal, ∀ σ, oField off n x ts σ = Out.of r σ
    unfold oField
    generalize x.ev ts = z
    cases z <;> first | exact ⟨none, fun _ => rfl⟩ | exact ⟨_, fun _ => rfl⟩
  case indexAddr e x i =>
    show ∃ r : Option AVal, ∀ σ, oIndexAddr e x i ts σ = Out.of r σ
    unfold oIndexAddr
    generalize x.ev ts = z1
    generalize i.ev ts = z2
    cases z1 <;> first | exact ⟨none, fun _ => rfl⟩ | skip
    rename_i a ln c ex es
    cases a <;> first | exact ⟨none, fun _ => rfl⟩ | skip
    rename_i p
    obtain ⟨b, o⟩ := p
    cases z2 <;> first | exact ⟨none, fun _ => rfl⟩ | skip
    rename_i k n
    cases n <;> first | exact ⟨none, fun _ => rfl⟩ | skip
    rename_i n
    dsimp only
    generalize (Nat.beq es e && Nat.ble (Nat.succ n) ln) = t
    cases t <;> first | exact ⟨none, fun _ => rfl⟩ | exact ⟨some _, fun _ => rfl⟩
  case indexArr ln e x i =>
    show ∃ r : Option AVal, ∀ σ, oIndexArr ln e x i ts σ = Out.of r σ
    unfold oIndexArr
    generalize x.ev ts = z1
    generalize i.ev ts = z2
    cases z1 <;> first | exact ⟨none, fun _ => rfl⟩ | skip
    rename_i a
    cases a <;> first | exact ⟨none, fun _ => rfl⟩ | skip
    rename_i p
    obtain ⟨b, o⟩ := p
    cases z2 <;> first | exact ⟨none, fun _ => rfl⟩ | skip
    rename_i k n
    cases n <;> first | exact ⟨none, fun _ => rfl⟩ | skip
    rename_i n
    dsimp only
    generalize Nat.ble (Nat.succ n) ln = t
    cases t <;> first | exact ⟨none, fun _ => rfl⟩ | exact ⟨some _, fun _ => rfl⟩
  case index ln e n x i =>
    show ∃ r : Option AVal, ∀ σ, oIndex ln e n x i ts σ = Out.of r σ
    unfold oIndex
    generalize x.ev ts = z1
    generalize i.ev ts = z2
    cases z1 <;> first | exact ⟨none, fun _ => rfl⟩ | skip
    cases z2 <;> first | exact ⟨none, fun _ => rfl⟩ | skip
    rename_i k m
    cases m <;> first | exact ⟨none, fun _ => rfl⟩ | skip
    rename_i m
    dsimp only
    generalize Nat.ble (Nat.succ m) ln = t
    cases t <;> first | exact ⟨none, fun _ => rfl⟩ | exact ⟨_, fun _ => rfl⟩
  case indexStr x i =>
    show ∃ r : Option AVal, ∀ σ, oIndexStr x i ts σ = Out.of r σ
    unfold oIndexStr
    generalize x.ev ts = z1
    generalize i.ev ts = z2
    cases z1 <;> first | exact ⟨none, fun _ => rfl⟩ | skip
    rename_i s
    cases z2 <;> first | exact ⟨none, fun _ => rfl⟩ | skip
    rename_i k m
    cases m <;> first | exact ⟨none, fun _ => rfl⟩ | skip
    rename_i m
    dsimp only
    generalize nth? s m = t
    cases t <;> first | exact ⟨none, fun _ => rfl⟩ | exact ⟨some _, fun _ => rfl⟩
  case extract x i =>
    show ∃ r : Option AVal, ∀ σ, oExtract x i ts σ = Out.of r σ
    unfold oExtract
    generalize x.ev ts = z
    cases z <;> first | exact ⟨none, fun _ => rfl⟩ | exact ⟨_, fun _ => rfl⟩
  case len x =>
    show ∃ r : Option AVal, ∀ σ, oLen x ts σ = Out.of r σ
    unfold oLen
    generalize x.ev ts = z
    cases z <;> first | exact ⟨none, fun _ => rfl⟩ | exact ⟨some _, fun _ => rfl⟩
  case lenStr x =>
    show ∃ r : Option AVal, ∀ σ, oLenStr x ts σ = Out.of r σ
    unfold oLenStr
    generalize x.ev ts = z
    cases z <;> first | exact ⟨none, fun _ => rfl⟩ | exact ⟨some _, fun _ => rfl⟩
  case lenConst n => exact ⟨some _, fun _ => rfl⟩
  case cap x =>
    show ∃ r : Option AVal, ∀ σ, oCap x ts σ = Out.of r σ
    unfold oCap
    generalize x.ev ts = z
    cases z <;> first | exact ⟨none, fun _ => rfl⟩ | skip
    rename_i a l c ex e
    cases ex
    · exact ⟨none, fun _ => rfl⟩
    · exact ⟨some _, fun _ => rfl⟩
  case min x y =>
    show ∃ r : Option AVal, ∀ σ, oMin x y ts σ = Out.of r σ
    unfold oMin
    generalize x.ev ts = z1
    generalize y.ev ts = z2
    cases z1 <;> cases z2 <;> first | exact ⟨none, fun _ => rfl⟩ | exact ⟨some _, fun _ => rfl⟩
  case max x y =>
    show ∃ r : Option AVal, ∀ σ, oMax x y ts σ = Out.of r σ
    unfold oMax
    generalize x.ev ts = z1
    generalize y.ev ts = z2
    cases z1 <;> cases z2 <;> first | exact ⟨none, fun _ => rfl⟩ | exact ⟨some _, fun _ => rfl⟩
  case indexByte s c =>
    show ∃ r : Option AVal, ∀ σ, oIndexByte s c ts σ = Out.of r σ
    unfold oIndexByte
    generalize s.ev ts = z1
    generalize c.ev ts = z2
    cases z1 <;> first | exact ⟨none, fun _ => rfl⟩ | skip
    rename_i s
    cases z2 <;> first | exact ⟨none, fun _ => rfl⟩ | skip
    rename_i k m
    cases k <;> first | exact ⟨none, fun _ => rfl⟩ | skip
    cases m <;> first | exact ⟨none, fun _ => rfl⟩ | skip
    rename_i m
    dsimp only
    generalize Nat.ble m 255 = t
    cases t <;> first | exact ⟨none, fun _ => rfl⟩ | exact ⟨some _, fun _ => rfl⟩

theorem Out.of_val {r : Option AVal} {σ σ' : Heap} {v : AVal} (h : Out.of r σ = .val v σ') : r = some v ∧ σ' = σ := by
  cases r with
  | none => cases h
  | some x => cases h; exact ⟨rfl, rfl⟩

theorem pureShape {o : AOp} (h : sortOf o = .pure) {call : CallFn} {ts : Tmps} {σ σ' : Heap} {v : AVal} (e : evOp o call ts σ = .val v σ') :
    σ' = σ ∧ ∀ σ2, evOp o call ts σ2 = .val v σ2 := by
  obtain ⟨r, hr⟩ := pureOut h call ts
  rw [hr] at e
  obtain ⟨rfl, rfl⟩ := Out.of_val e
  exact ⟨rfl, fun σ2 => hr σ2⟩

theorem readOut {o : AOp} (h : sortOf o = .read) (call : CallFn) (ts : Tmps) (σ : Heap) : ∃ r : Option AVal, evOp o call ts σ = Out.of r σ := by
  cases o <;> first | cases h | skip
  case load n a => exact ⟨_, rfl⟩
  case lookup ck z x i ok =>
    show ∃ r : Option AVal, oLookup ck z x i ok ts σ = Out.of r σ
    unfold oLookup
    split
    · exact ⟨none, rfl⟩
    · exact ⟨some _, rfl⟩
    · exact ⟨some _, rfl⟩
  case lenMap x =>
    show ∃ r : Option AVal, oLenMap x ts σ = Out.of r σ
    unfold oLenMap
    split
    · exact ⟨some _, rfl⟩
    · split
      · exact ⟨some _, rfl⟩
      · exact ⟨none, rfl⟩
    · exact ⟨none, rfl⟩
  case textOf x =>
    show ∃ r : Option AVal, oTextOf x ts σ = Out.of r σ
    unfold oTextOf
    split
    · exact ⟨some _, rfl⟩
    · rename_i b o ln _ _ esz _
      cases Nat.beq esz 1
      · exact ⟨none, rfl⟩
      · cases Nat.beq ln 0
        · dsimp only
          split
          · split
            · exact ⟨some _, rfl⟩
            · exact ⟨none, rfl⟩
          · exact ⟨none, rfl⟩
        · exact ⟨some _, rfl⟩
    · exact ⟨none, rfl⟩

theorem readShape {o : AOp} (h : sortOf o = .read) {call : CallFn} {ts : Tmps} {σ σ' : Heap} {v : AVal} (e : evOp o call ts σ = .val v σ') : σ' = σ := by
  obtain ⟨r, hr⟩ := readOut h call ts σ
  rw [hr] at e
  exact (Out.of_val e).2

/-- What a making of memory gives: the next number's value and block. -/
theorem freshOut {o : AOp} (h : sortOf o = .fresh) (call : CallFn) (ts : Tmps) (n : Nat) : (∀ t, evOp o call ts ⟨n, t⟩ = .fail) ∨ ∃ v ob, ∀ t, evOp o call ts ⟨n, t⟩ = .val v (Heap.new ⟨n, t⟩ ob) := by
  cases o <;> first | cases h | skip
  case alloc z => exact .inr ⟨.ptr (some (n, 0)), .cells z, fun _ => rfl⟩
  case box x =>
    show (∀ t, oBox x ts ⟨n, t⟩ = .fail) ∨ ∃ v ob, ∀ t, oBox x ts ⟨n, t⟩ = .val v (Heap.new ⟨n, t⟩ ob)
    unfold oBox
    generalize allOne (x.ev ts).cells = b
    cases b
    · exact .inl fun _ => rfl
    · exact .inr ⟨.ptr (some (n, 0)), .cells (x.ev ts).cells, fun _ => rfl⟩
  case buildSlice z e l ps =>
    show (∀ t, oBuildSlice z e l ps ts ⟨n, t⟩ = .fail) ∨ ∃ v ob, ∀ t, oBuildSlice z e l ps ts ⟨n, t⟩ = .val v (Heap.new ⟨n, t⟩ ob)
    unfold oBuildSlice
    generalize fillA ps ts (repN z l) = r
    cases r with
    | none => exact .inl fun _ => rfl
    | some cs =>
      dsimp only
      generalize allOne cs = b
      cases b
      · exact .inl fun _ => rfl
      · exact .inr ⟨_, _, fun _ => rfl⟩
  case mkMap => exact .inr ⟨.map (some n), .map [], fun _ => rfl⟩
  case mkSlice z e b l c =>
    show (∀ t, oMkSlice z e b l c ts ⟨n, t⟩ = .fail) ∨ ∃ v ob, ∀ t, oMkSlice z e b l c ts ⟨n, t⟩ = .val v (Heap.new ⟨n, t⟩ ob)
    unfold oMkSlice
    generalize l.ev ts = z1
    generalize c.ev ts = z2
    cases z1 <;> first | exact .inl fun _ => rfl | skip
    rename_i k1 m1
    cases k1 <;> first | exact .inl fun _ => rfl | skip
    cases m1 <;> first | exact .inl fun _ => rfl | skip
    rename_i m1
    cases z2 <;> first | exact .inl fun _ => rfl | skip
    rename_i k2 m2
    cases k2 <;> first | exact .inl fun _ => rfl | skip
    cases m2 <;> first | exact .inl fun _ => rfl | skip
    rename_i m2
    dsimp only
    generalize (Nat.ble m1 m2 && Nat.ble m2 4294967296 && Nat.ble (Nat.mul b m2) 1099511627776) = t
    cases t
    · exact .inl fun _ => rfl
    · exact .inr ⟨_, _, fun _ => rfl⟩

theorem freshShape {o : AOp} (h : sortOf o = .fresh) {call : CallFn} {ts : Tmps} {σ σ' : Heap} {v : AVal} (e : evOp o call ts σ = .val v σ') :
    ∃ ob, σ' = σ.new ob ∧ ∀ t, evOp o call ts ⟨σ.next, t⟩ = .val v (Heap.new ⟨σ.next, t⟩ ob) := by
  obtain ⟨n, t0⟩ := σ
  rcases freshOut h call ts n with hf | ⟨v', ob, hf⟩
  · rw [hf] at e; cases e
  · have e' := e
    rw [hf] at e'
    cases e'
    exact ⟨ob, rfl, hf⟩

theorem Out.of_defr {r : Option AVal} {σ : Heap} {f : FuncId} {args : List AVal} {σ' : Heap} (h : Out.of r σ = .defr f args σ') : False := by
  cases r <;> cases h
theorem Out.heap_defr {v : AVal} {r : Option Heap} {f : FuncId} {args : List AVal} {σ' : Heap} (h : Out.heap v r = .defr f args σ') : False := by
  cases r <;> cases h

theorem appendA_defr {esz bytes : Nat} {σ : Heap} {s : AVal} {xs : List AVal} {n : Nat} {f : FuncId} {args : List AVal} {σ' : Heap} : appendA esz bytes σ s xs n ≠ .defr f args σ' := by
  intro h
  unfold appendA at h
  split at h
  · rename_i a ln cap ex esz'
    dsimp only at h
    generalize Nat.ble (Nat.add ln n) cap = t at h
    cases t with
    | false =>
      dsimp only at h
      generalize (Nat.ble (Nat.mul (Nat.add ln n) bytes) 1099511627776 && Nat.ble (Nat.add ln n) 1099511627776 && Nat.ble 1 bytes && allOne xs) = t at h
      cases t with
      | false => cases h
      | true =>
        dsimp only at h
        split at h
        · cases h
        · generalize Nat.beq esz' esz = t at h
          cases t with
          | false => cases h
          | true =>
            dsimp only at h
            split at h <;> cases h
    | true =>
      dsimp only at h
      split at h
      · generalize isNil xs = t at h
        cases t <;> cases h
      · generalize Nat.beq esz' esz = t at h
        cases t with
        | false => cases h
        | true =>
          dsimp only at h
          generalize isNil xs = t at h
          cases t with
          | false => exact Out.heap_defr h
          | true => cases h
  · cases h

/-- Only a deferring operation defers. -/
theorem chain_defr {o : AOp} (hs : sortOf o = .chain) (hc : o.isCall = false) (hn : noDefer o = true) {call : CallFn} {ts : Tmps} {σ : Heap} {f : FuncId} {args : List AVal} {σ' : Heap} : evOp o call ts σ ≠ .defr f args σ' := by
  cases o <;> first | (cases hs; done) | (cases hc; done) | (cases hn; done) | skip
  case bytesOf x =>
    intro h
    have h' : oBytesOf x ts σ = .defr f args σ' := h
    unfold oBytesOf at h'
    split at h'
    · rename_i s _
      generalize Nat.ble (len s) 4294967296 = t at h'
      cases t <;> cases h'
    · cases h'
  case store n a x =>
    intro h
    have h' : oStore n a x ts σ = .defr f args σ' := h
    unfold oStore at h'
    split at h'
    · generalize Nat.beq (len (x.ev ts).cells) n = t at h'
      cases t with
      | false => cases h'
      | true => exact Out.heap_defr h'
    · cases h'
  case mapUpdate ck m k v =>
    intro h
    have h' : oMapUpdate ck m k v ts σ = .defr f args σ' := h
    unfold oMapUpdate at h'
    split at h'
    · split at h'
      · split at h' <;> cases h'
      · cases h'
    · cases h'
  case append e b s x =>
    intro h
    have h' : oAppend e b s x ts σ = .defr f args σ' := h
    unfold oAppend at h'
    split at h'
    · cases h'
    · split at h'
      · cases h'
      · exact appendA_defr h'
  case copy e d s =>
    intro h
    have h' : oCopy e d s ts σ = .defr f args σ' := h
    unfold oCopy at h'
    split at h'
    · split at h'
      · cases h'
      · rename_i a dLen _ _ esz' _ _ m _
        dsimp only at h'
        split at h'
        · cases h'
        · rename_i xs _
          split at h'
          · generalize isNil xs = t at h'
            cases t <;> cases h'
          · generalize Nat.beq esz' e = t at h'
            cases t with
            | false => cases h'
            | true =>
              dsimp only at h'
              generalize isNil xs = t at h'
              cases t with
              | false => exact Out.heap_defr h'
              | true => cases h'
    · cases h'
  case delete ck m k =>
    intro h
    have h' : oDelete ck m k ts σ = .defr f args σ' := h
    unfold oDelete at h'
    split at h'
    · cases h'
    · split at h'
      · split at h' <;> cases h'
      · cases h'
    · cases h'
  case panic x =>
    intro h
    have h' : oPanic x ts σ = .defr f args σ' := h
    unfold oPanic at h'
    split at h' <;> cases h'
  case rangeStr x =>
    intro h
    have h' : oRangeStr x ts σ = .defr f args σ' := h
    unfold oRangeStr at h'
    split at h' <;> cases h'
  case nextStr x =>
    intro h
    have h' : oNextStr x ts σ = .defr f args σ' := h
    unfold oNextStr at h'
    split at h'
    · split at h'
      · split at h'
        · cases h'
        · rename_i c _
          generalize Nat.ble c.toNat 127 = t at h'
          cases t <;> cases h'
      · cases h'
    · cases h'
  case bad => intro h; cases h

theorem sort_isCall {o : AOp} (h : sortOf o ≠ .chain) : o.isCall = false := by
  cases o <;> first | rfl | exact absurd rfl h

/-- Nothing but a deferring operation defers, if no call does. -/
theorem evOp_defr {o : AOp} (hn : noDefer o = true) {call : CallFn} (hcall : ∀ f args σ f' args' σ', call f args σ ≠ .defr f' args' σ') {ts : Tmps} {σ : Heap} {f : FuncId} {args : List AVal} {σ' : Heap} :
    evOp o call ts σ ≠ .defr f args σ' := by
  intro h
  cases hs : sortOf o with
  | pure =>
    obtain ⟨r, hr⟩ := pureOut hs call ts
    rw [hr] at h
    exact Out.of_defr h
  | read =>
    obtain ⟨r, hr⟩ := readOut hs call ts σ
    rw [hr] at h
    exact Out.of_defr h
  | fresh =>
    obtain ⟨n, t⟩ := σ
    rcases freshOut hs call ts n with hf | ⟨v, ob, hf⟩
    · rw [hf] at h; cases h
    · rw [hf] at h; cases h
  | chain =>
    cases hc : o.isCall with
    | false => exact chain_defr hs hc hn h
    | true =>
      cases o <;> first | (cases hc; done) | skip
      case call g xs => exact hcall _ _ _ _ _ _ h
      case recover => cases h
      case callDyn x xs =>
        have h' : oCallDyn x xs call ts σ = .defr f args σ' := h
        unfold oCallDyn at h'
        split at h'
        · exact hcall _ _ _ _ _ _ h'
        · cases h'

end Go.Ab
