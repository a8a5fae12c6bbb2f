/- When an abstract value stands for a value, and an abstract heap for a world. -/
import Derived.Test.YtgiebkbbnjnplaaGreatDoorAbRel
namespace Go.Ab

/-- Where a logical block lies: a block of the world, the first cell there, and how many cells there are from it on. -/
structure Pl where
  p : Nat
  o : Nat
  room : Nat

abbrev Mu := Nat → Option Pl

mutual
def VRel (μ : Mu) : AVal → Value → Prop
  | .bool b, v => v = .bool b
  | .int k n, v => v = .int k n
  | .str s, v => v = .string ⟨s.toArray⟩
  | .ptr none, v => v = .pointer none
  | .ptr (some (b, o)), v => ∃ m, μ b = some m ∧ v = .pointer (some ⟨m.p, m.o + o, none⟩)
  | .slice none len cap _ _, v => len = 0 ∧ cap = 0 ∧ v = .slice none 0 0
  | .slice (some (b, o)) len cap ex esz, v => ∃ q cap', v = .slice (some q) len cap' ∧ len ≤ cap ∧ cap ≤ cap' ∧ (ex = true → cap' = cap) ∧
      (∃ m, μ b = some m ∧ (cap' = 0 ∨ (q = ⟨m.p, m.o + o, none⟩ ∧ (ex = true ∨ o + cap' * esz ≤ m.room))))
  | .map none, v => v = .map none
  | .map (some r), v => ∃ m, μ r = some m ∧ v = .map (some m.p)
  | .func f cs, v => ∃ vs, v = .func (.func f) #[] vs ∧ VRels μ cs vs.toList
  | .nilFunc, v => v = .nilFunc
  | .iface t a, v => ∃ x, v = .iface t x ∧ VRel μ a x
  | .nilIface, v => v = .nilIface
  | .agg cs, v => ∃ vs, v = .agg vs ∧ VRels μ cs vs.toList
  | .tuple cs, v => ∃ vs, v = .tuple vs ∧ VRels μ cs vs.toList
def VRels (μ : Mu) : List AVal → List Value → Prop
  | [], vs => vs = []
  | a :: as, vs => ∃ x xs, vs = x :: xs ∧ VRel μ a x ∧ VRels μ as xs
end

def Mu.le (μ μ' : Mu) : Prop := ∀ b m, μ b = some m → μ' b = some m
theorem Mu.le.refl (μ : Mu) : μ.le μ := fun _ _ h => h
theorem Mu.le.trans {a b c : Mu} (h : a.le b) (h' : b.le c) : a.le c := fun x m e => h' x m (h x m e)

mutual
theorem VRel.mono {μ μ' : Mu} (h : μ.le μ') : ∀ (a : AVal) (v : Value), VRel μ a v → VRel μ' a v
  | .bool _, _, r | .int _ _, _, r | .str _, _, r | .ptr none, _, r | .slice none _ _ _ _, _, r | .map none, _, r | .nilFunc, _, r | .nilIface, _, r => by
    simpa only [VRel] using r
  | .ptr (some (b, o)), v, r => by
    simp only [VRel] at r ⊢
    obtain ⟨m, e, r⟩ := r
    exact ⟨m, h _ _ e, r⟩
  | .slice (some (b, o)) len cap ex esz, v, r => by
    simp only [VRel] at r ⊢
    obtain ⟨q, cap', e, h1, h2, h3, m, hm, h4⟩ := r
    exact ⟨q, cap', e, h1, h2, h3, m, h _ _ hm, h4⟩
  | .map (some b), v, r => by
    simp only [VRel] at r ⊢
    obtain ⟨m, e, r⟩ := r
    exact ⟨m, h _ _ e, r⟩
  | .func f cs, v, r => by
    simp only [VRel] at r ⊢
    obtain ⟨vs, e, r⟩ := r
    exact ⟨vs, e, VRels.mono h cs _ r⟩
  | .iface t a, v, r => by
    simp only [VRel] at r ⊢
    obtain ⟨x, e, r⟩ := r
    exact ⟨x, e, VRel.mono h a _ r⟩
  | .agg cs, v, r => by
    simp only [VRel] at r ⊢
    obtain ⟨vs, e, r⟩ := r
    exact ⟨vs, e, VRels.mono h cs _ r⟩
  | .tuple cs, v, r => by
    simp only [VRel] at r ⊢
    obtain ⟨vs, e, r⟩ := r
    exact ⟨vs, e, VRels.mono h cs _ r⟩
theorem VRels.mono {μ μ' : Mu} (h : μ.le μ') : ∀ (as : List AVal) (vs : List Value), VRels μ as vs → VRels μ' as vs
  | [], _, r => by simpa only [VRels] using r
  | a :: as, vs, r => by
    simp only [VRels] at r ⊢
    obtain ⟨x, xs, e, r1, r2⟩ := r
    exact ⟨x, xs, e, VRel.mono h a _ r1, VRels.mono h as _ r2⟩
end

theorem VRels.length {μ : Mu} : ∀ {as : List AVal} {vs : List Value}, VRels μ as vs → vs.length = as.length
  | [], vs, r => by simp only [VRels] at r; subst r; rfl
  | a :: as, vs, r => by
    simp only [VRels] at r
    obtain ⟨x, xs, rfl, _, r2⟩ := r
    simp [VRels.length r2]

theorem VRels.get {μ : Mu} : ∀ {as : List AVal} {vs : List Value}, VRels μ as vs → ∀ (i : Nat) (a : AVal), as[i]? = some a → ∃ v, vs[i]? = some v ∧ VRel μ a v
  | [], vs, r, i, a, h => by simp at h
  | b :: as, vs, r, i, a, h => by
    simp only [VRels] at r
    obtain ⟨x, xs, rfl, r1, r2⟩ := r
    cases i with
    | zero => simp at h; subst h; exact ⟨x, by simp, r1⟩
    | succ i => simpa using VRels.get r2 i a (by simpa using h)

theorem VRels.of {μ : Mu} : ∀ {as : List AVal} {vs : List Value}, vs.length = as.length → (∀ (i : Nat) (a : AVal), as[i]? = some a → ∃ v, vs[i]? = some v ∧ VRel μ a v) → VRels μ as vs
  | [], vs, hl, _ => by simp only [VRels]; exact List.length_eq_zero_iff.1 (by simpa using hl)
  | a :: as, [], hl, _ => by simp at hl
  | a :: as, x :: xs, hl, h => by
    simp only [VRels]
    obtain ⟨v, hv, r⟩ := h 0 a (by simp)
    simp at hv
    subst hv
    exact ⟨x, xs, rfl, r, VRels.of (by simpa using hl) fun i b hb => by simpa using h (i + 1) b (by simpa using hb)⟩

theorem VRels.append {μ : Mu} {as bs : List AVal} {vs ws : List Value} (h : VRels μ as vs) (h' : VRels μ bs ws) : VRels μ (as ++ bs) (vs ++ ws) := by
  induction as generalizing vs with
  | nil => simp only [VRels] at h; subst h; simpa using h'
  | cons a as ih =>
    simp only [VRels] at h
    obtain ⟨x, xs, rfl, r1, r2⟩ := h
    simp only [List.cons_append, VRels]
    exact ⟨x, xs ++ ws, rfl, r1, ih r2⟩

theorem VRels.nil {μ : Mu} : VRels μ [] [] := by simp only [VRels]
theorem VRels.cons {μ : Mu} {a : AVal} {v : Value} {as : List AVal} {vs : List Value} (h : VRel μ a v) (h' : VRels μ as vs) : VRels μ (a :: as) (v :: vs) := by
  simp only [VRels]; exact ⟨v, vs, rfl, h, h'⟩
theorem VRels.one {μ : Mu} {a : AVal} {v : Value} (h : VRel μ a v) : VRels μ [a] [v] := .cons h .nil

theorem VRels.drop {μ : Mu} : ∀ {as : List AVal} {vs : List Value} (n : Nat), VRels μ as vs → VRels μ (as.drop n) (vs.drop n)
  | as, vs, 0, h => by simpa using h
  | [], vs, n + 1, h => by simp only [VRels] at h; subst h; simp [VRels]
  | a :: as, vs, n + 1, h => by
    simp only [VRels] at h
    obtain ⟨x, xs, rfl, _, r2⟩ := h
    simpa using VRels.drop n r2

theorem VRels.take {μ : Mu} : ∀ {as : List AVal} {vs : List Value} (n : Nat), VRels μ as vs → VRels μ (as.take n) (vs.take n)
  | as, vs, 0, h => by simp [VRels]
  | [], vs, n + 1, h => by simp only [VRels] at h; subst h; simp [VRels]
  | a :: as, vs, n + 1, h => by
    simp only [VRels] at h
    obtain ⟨x, xs, rfl, r1, r2⟩ := h
    simpa using VRels.cons r1 (VRels.take n r2)

/-- The cells of a value. -/
theorem VRel.cells {μ : Mu} {a : AVal} {v : Value} (h : VRel μ a v) : VRels μ a.cells v.cells.toList := by
  cases a with
  | agg cs =>
    simp only [VRel] at h
    obtain ⟨vs, rfl, r⟩ := h
    exact r
  | ptr a =>
    have h' := h
    cases a with
    | none => simp only [VRel] at h; subst h; exact .one h'
    | some x => obtain ⟨b, o⟩ := x; simp only [VRel] at h; obtain ⟨m, _, rfl⟩ := h; exact .one h'
  | slice a l c e z =>
    have h' := h
    cases a with
    | none => simp only [VRel] at h; obtain ⟨_, _, rfl⟩ := h; exact .one h'
    | some x => obtain ⟨b, o⟩ := x; simp only [VRel] at h; obtain ⟨q, cap', rfl, _⟩ := h; exact .one h'
  | map a =>
    have h' := h
    cases a with
    | none => simp only [VRel] at h; subst h; exact .one h'
    | some x => simp only [VRel] at h; obtain ⟨m, _, rfl⟩ := h; exact .one h'
  | bool _ | int _ _ | str _ | nilFunc | nilIface => have h' := h; simp only [VRel] at h; subst h; exact .one h'
  | func _ _ | iface _ _ | tuple _ => have h' := h; simp only [VRel] at h; obtain ⟨_, rfl, _⟩ := h; exact .one h'

theorem VRel.oneCell {μ : Mu} {a : AVal} {v : Value} (h : VRel μ a v) (h1 : a.oneCell = true) : v.oneCell' = true := by
  cases a with
  | agg cs => cases h1
  | tuple cs => cases h1
  | ptr a =>
    cases a with
    | none => simp only [VRel] at h; subst h; rfl
    | some x => obtain ⟨b, o⟩ := x; simp only [VRel] at h; obtain ⟨m, _, rfl⟩ := h; rfl
  | slice a l c e z =>
    cases a with
    | none => simp only [VRel] at h; obtain ⟨_, _, rfl⟩ := h; rfl
    | some x => obtain ⟨b, o⟩ := x; simp only [VRel] at h; obtain ⟨q, cap', rfl, _⟩ := h; rfl
  | map a =>
    cases a with
    | none => simp only [VRel] at h; subst h; rfl
    | some x => simp only [VRel] at h; obtain ⟨m, _, rfl⟩ := h; rfl
  | bool _ | int _ _ | str _ | nilFunc | nilIface => simp only [VRel] at h; subst h; rfl
  | func _ _ | iface _ _ => simp only [VRel] at h; obtain ⟨_, rfl, _⟩ := h; rfl

theorem VRel.undef (μ : Mu) : VRel μ .undef Go.undef := by
  simp only [AVal.undef, VRel, Go.undef]
  exact ⟨#[], rfl, by simp [VRels]⟩

/-- A closed value of the text. -/
theorem ofValue_rel (μ : Mu) : ∀ (n : Nat) (v : Value) (a : AVal), ofValue n v = some a → VRel μ a v
  | 0, _, _, h => by simp [ofValue] at h
  | n + 1, v, a, h => by
    have ih := ofValue_rel μ n
    have ihs : ∀ (vs : Array Value) (as : List AVal), mapO (ofValue n) vs.toList = some as → VRels μ as vs.toList := by
      intro vs as hm
      obtain ⟨hl, hi⟩ := mapO_some _ _ _ hm
      refine VRels.of (by rw [hl]) fun i a ha => ?_
      have hlt : i < as.length := (List.getElem?_eq_some_iff.1 ha).1
      have hv : vs.toList[i]? = some vs.toList[i] := List.getElem?_eq_getElem (by omega)
      obtain ⟨b, hb, hb'⟩ := hi i _ hv
      rw [hb'] at ha
      cases ha
      exact ⟨_, hv, ih _ _ hb⟩
    unfold ofValue at h
    split at h
    · cases h; simp [VRel]
    · cases h; simp [VRel]
    · cases h; simp [VRel]
    · cases h; simp [VRel]
    · cases h; simp [VRel]
    · cases h; simp [VRel]
    · split at h
      · rename_i hc
        simp only [Bool.and_eq_true, decide_eq_true_eq] at hc
        cases h
        simp only [VRel]
        refine ⟨#[], ?_, by simp [VRels]⟩
        rw [Array.size_eq_zero_iff.1 hc.1, Array.size_eq_zero_iff.1 hc.2]
      · cases h
    · cases h; simp [VRel]
    · rename_i t x
      cases hx : ofValue n x with
      | none => rw [hx] at h; cases h
      | some b =>
        rw [hx] at h
        cases h
        simp only [VRel]
        exact ⟨x, rfl, ih _ _ hx⟩
    · cases h; simp [VRel]
    · rename_i cs
      cases hx : mapO (ofValue n) cs.toList with
      | none => rw [hx] at h; cases h
      | some b =>
        rw [hx] at h
        cases h
        simp only [VRel]
        exact ⟨cs, rfl, ihs _ _ hx⟩
    · rename_i cs
      cases hx : mapO (ofValue n) cs.toList with
      | none => rw [hx] at h; cases h
      | some b =>
        rw [hx] at h
        cases h
        simp only [VRel]
        exact ⟨cs, rfl, ihs _ _ hx⟩
    · cases h

/-! Heaps. -/

/-- A logical block lies in the world. -/
def ORel (μ : Mu) (w : World) (m : Pl) : AObj → Prop
  | .cells cs => ∃ c e lo hi, w.heap[m.p]? = some (.cells c e (lo, hi)) ∧ c.size = m.o + m.room ∧ cs.length ≤ m.room ∧
      VRels μ cs ((c.toList.drop m.o).take cs.length) ∧ (∀ a ∈ cs, a.oneCell = true) ∧ (hi ≤ lo ∨ c.size ≤ lo)
  | .map es => m.o = 0 ∧ ∃ es' clk, w.heap[m.p]? = some (.map es' clk) ∧ es'.size = es.length ∧
      (∀ (i : Nat) (k v : AVal), es[i]? = some (k, v) → ∃ e, es'[i]? = some e ∧ VRel μ k e.key ∧ VRel μ v e.val)
  | .iter s pos => m.o = 0 ∧ w.heap[m.p]? = some (.stringIter ⟨s.toArray⟩ pos)

theorem ORel.mono {μ μ' : Mu} (h : μ.le μ') {w : World} {m : Pl} {o : AObj} (r : ORel μ w m o) : ORel μ' w m o := by
  cases o with
  | cells cs =>
    obtain ⟨c, e, lo, hi, h1, h2, h3, h4, h5⟩ := r
    exact ⟨c, e, lo, hi, h1, h2, h3, h4.mono h, h5⟩
  | map es =>
    obtain ⟨h0, es', clk, h1, h2, h3⟩ := r
    exact ⟨h0, es', clk, h1, h2, fun i k v hi => let ⟨e, a, b, c⟩ := h3 i k v hi; ⟨e, a, b.mono h, c.mono h⟩⟩
  | iter s pos => exact r

theorem ORel.world {μ : Mu} {w w' : World} {m : Pl} {o : AObj} (r : ORel μ w m o) (h : w'.heap[m.p]? = w.heap[m.p]?) : ORel μ w' m o := by
  cases o with
  | cells cs =>
    obtain ⟨c, e, lo, hi, h1, h2⟩ := r
    exact ⟨c, e, lo, hi, h ▸ h1, h2⟩
  | map es =>
    obtain ⟨h0, es', clk, h1, h2⟩ := r
    exact ⟨h0, es', clk, h ▸ h1, h2⟩
  | iter s pos => exact ⟨r.1, h ▸ r.2⟩

theorem ORel.lt {μ : Mu} {w : World} {m : Pl} {o : AObj} (r : ORel μ w m o) : m.p < w.heap.size := by
  cases o with
  | cells cs => obtain ⟨c, e, lo, hi, h1, _⟩ := r; exact (Array.getElem?_eq_some_iff.1 h1).1
  | map es => obtain ⟨_, es', clk, h1, _⟩ := r; exact (Array.getElem?_eq_some_iff.1 h1).1
  | iter s pos => exact (Array.getElem?_eq_some_iff.1 r.2).1

structure Rel (μ : Mu) (σ : Heap) (w : World) : Prop where
  fresh : ∀ b, σ.next ≤ b → μ b = none
  objs : ∀ b o, σ.get b = some o → ∃ m, μ b = some m ∧ ORel μ w m o
  inj : ∀ b b' o o' m m', σ.get b = some o → σ.get b' = some o' → μ b = some m → μ b' = some m' → m.p = m'.p → b = b'

/-- A block of cells stays one, of its type, its size and its frozen part. -/
def KindKept (w w' : World) : Prop := ∀ (q : Nat) (c : Array Value) (e : TypeId) (fr : Nat × Nat), w.heap[q]? = some (.cells c e fr) → ∃ c', w'.heap[q]? = some (.cells c' e fr) ∧ c'.size = c.size

theorem KindKept.refl (w : World) : KindKept w w := fun _ c _ _ h => ⟨c, h, rfl⟩
theorem KindKept.trans {w w1 w2 : World} (h : KindKept w w1) (h' : KindKept w1 w2) : KindKept w w2 := fun q c e fr hq => by
  obtain ⟨c1, h1, e1⟩ := h q c e fr hq
  obtain ⟨c2, h2, e2⟩ := h' q c1 e fr h1
  exact ⟨c2, h2, e2.trans e1⟩
theorem KindKept.of_keep {w w' : World} (h : ∀ q, q < w.heap.size → w'.heap[q]? = w.heap[q]?) : KindKept w w' := fun q c _ _ hq =>
  ⟨c, by rw [h q (Array.getElem?_eq_some_iff.1 hq).1, hq], rfl⟩

/-- What a run leaves alone, and where its own blocks lie. -/
structure Ext (μ : Mu) (σ : Heap) (w : World) (μ' : Mu) (σ' : Heap) (w' : World) : Prop where
  mono : μ.le μ'
  size : w.heap.size ≤ w'.heap.size
  next : σ.next ≤ σ'.next
  owned : ∀ b o m, σ'.get b = some o → μ' b = some m → w.heap.size ≤ m.p ∨ ∃ b0 o0 m0, σ.get b0 = some o0 ∧ μ b0 = some m0 ∧ m0.p = m.p
  frame : ∀ q, q < w.heap.size → (∀ b o m, σ.get b = some o → μ b = some m → m.p ≠ q) → w'.heap[q]? = w.heap[q]?
  os : w'.os = w.os
  output : w'.output = w.output
  tape : w'.tape = w.tape
  old : ∀ b, b < σ.next → μ' b = μ b
  kind : KindKept w w'

theorem Ext.refl (μ : Mu) (σ : Heap) (w : World) : Ext μ σ w μ σ w :=
  ⟨.refl μ, Nat.le_refl _, Nat.le_refl _, fun b o m h h' => .inr ⟨b, o, m, h, h', rfl⟩, fun _ _ _ => rfl, rfl, rfl, rfl, fun _ _ => rfl, .refl w⟩

theorem Ext.trans {μ μ1 μ2 : Mu} {σ σ1 σ2 : Heap} {w w1 w2 : World} (h : Ext μ σ w μ1 σ1 w1) (h' : Ext μ1 σ1 w1 μ2 σ2 w2) : Ext μ σ w μ2 σ2 w2 := by
  refine ⟨h.mono.trans h'.mono, Nat.le_trans h.size h'.size, Nat.le_trans h.next h'.next, ?_, ?_, h'.os.trans h.os, h'.output.trans h.output, h'.tape.trans h.tape,
    fun b hb => (h'.old b (Nat.lt_of_lt_of_le hb h.next)).trans (h.old b hb), h.kind.trans h'.kind⟩
  · intro b o m hg hm
    rcases h'.owned b o m hg hm with hp | ⟨b0, o0, m0, g0, e0, hp⟩
    · exact .inl (Nat.le_trans h.size hp)
    · rcases h.owned b0 o0 m0 g0 e0 with hq | ⟨b1, o1, m1, g1, e1, hq⟩
      · exact .inl (hp ▸ hq)
      · exact .inr ⟨b1, o1, m1, g1, e1, hq.trans hp⟩
  · intro q hq hn
    rw [h'.frame q (Nat.lt_of_lt_of_le hq h.size) ?_, h.frame q hq hn]
    intro b o m hg hm e
    rcases h.owned b o m hg hm with hp | ⟨b1, o1, m1, g1, e1, hp⟩
    · omega
    · exact hn b1 o1 m1 g1 e1 (hp.trans e)

/-- The world's own draw. -/
theorem Rel.heapEq {μ : Mu} {σ : Heap} {w w' : World} (r : Rel μ σ w) (h : w'.heap = w.heap) : Rel μ σ w' :=
  ⟨r.fresh, fun b o hb => let ⟨m, e, ho⟩ := r.objs b o hb; ⟨m, e, ho.world (by rw [h])⟩, r.inj⟩

theorem Ext.drawn (μ : Mu) (σ : Heap) (w : World) (n : Nat) : Ext μ σ w μ σ { w with drawn := n } :=
  ⟨.refl μ, Nat.le_refl _, Nat.le_refl _, fun b o m h h' => .inr ⟨b, o, m, h, h', rfl⟩, fun _ _ _ => rfl, rfl, rfl, rfl, fun _ _ => rfl, .of_keep fun _ _ => rfl⟩

end Go.Ab
