/- The abstract values and heaps, and the model's: relations, and the first lemmas. -/
import Derived.Test.YtgiebkbbnjnplaaGreatDoorAbComp
import Derived.Laws.Cells
import Derived.Lib.FrozenHead
namespace Go.Ab

/-! Lists. -/

theorem nth?_eq {α : Type} : ∀ (l : List α) (n : Nat), nth? l n = l[n]?
  | [], n => by simp [nth?]
  | x :: xs, 0 => rfl
  | x :: xs, n + 1 => by
    have := nth?_eq xs n
    simpa [nth?] using this

theorem len_eq {α : Type} : ∀ (l : List α), len l = l.length
  | [] => rfl
  | x :: xs => by
    have := len_eq xs
    simpa [len] using this

theorem dropN_eq {α : Type} : ∀ (l : List α) (n : Nat), dropN l n = l.drop n
  | [], n => by simp [dropN]
  | x :: xs, 0 => rfl
  | x :: xs, n + 1 => by
    have := dropN_eq xs n
    simpa [dropN] using this

theorem takeN?_some {α : Type} : ∀ (l : List α) (n : Nat) (r : List α), takeN? l n = some r → r = l.take n ∧ n ≤ l.length
  | [], 0, r, h => by have h' : some [] = some r := h; cases h'; exact ⟨rfl, Nat.le_refl 0⟩
  | [], n + 1, r, h => by simp [takeN?] at h
  | x :: xs, 0, r, h => by have h' : some [] = some r := h; cases h'; exact ⟨rfl, Nat.zero_le _⟩
  | x :: xs, n + 1, r, h => by
    have ih := takeN?_some xs n
    have h' : (Option.casesOn (takeN? xs n) none (fun r => some (x :: r)) : Option (List α)) = some r := h
    cases hr : takeN? xs n with
    | none => rw [hr] at h'; cases h'
    | some r' =>
      rw [hr] at h'
      simp only [Option.some.injEq] at h'
      obtain ⟨e, hl⟩ := ih r' hr
      subst h' e
      exact ⟨rfl, by simp; omega⟩

theorem subN?_some {α : Type} {l : List α} {o n : Nat} {r : List α} (h : subN? l o n = some r) : r = (l.drop o).take n ∧ (n = 0 ∨ o + n ≤ l.length) := by
  unfold subN? at h
  rw [dropN_eq] at h
  obtain ⟨e, hl⟩ := takeN?_some _ _ _ h
  refine ⟨e, ?_⟩
  rw [List.length_drop] at hl
  omega

theorem over?_some : ∀ (l vs r : List AVal), over? l vs = some r → r = vs ++ l.drop vs.length ∧ vs.length ≤ l.length
  | [], [], r, h => by simp [over?] at h; simp [h]
  | [], v :: vs, r, h => by simp [over?] at h
  | x :: xs, [], r, h => by simp [over?] at h; simp [h]
  | x :: xs, v :: vs, r, h => by
    have ih := over?_some xs vs
    have h' : (Option.casesOn (over? xs vs) none (fun r => some (v :: r)) : Option (List AVal)) = some r := h
    cases hr : over? xs vs with
    | none => rw [hr] at h'; cases h'
    | some r' =>
      rw [hr] at h'
      simp only [Option.some.injEq] at h'
      obtain ⟨e, hl⟩ := ih r' hr
      subst h' e
      exact ⟨by simp, by simp; omega⟩

theorem overAt?_some : ∀ (l vs : List AVal) (o : Nat) (r : List AVal), overAt? l vs o = some r → r = l.take o ++ vs ++ l.drop (o + vs.length) ∧ o + vs.length ≤ l.length
  | [], vs, 0, r, h => by
    obtain ⟨e, hl⟩ := over?_some [] vs r h
    have : vs = [] := List.length_eq_zero_iff.1 (by simpa using hl)
    subst this e
    simp
  | [], vs, o + 1, r, h => by simp [overAt?] at h
  | x :: xs, vs, 0, r, h => by
    obtain ⟨e, hl⟩ := over?_some (x :: xs) vs r h
    exact ⟨by simp [e], by simpa using hl⟩
  | x :: xs, vs, o + 1, r, h => by
    have ih := overAt?_some xs vs o
    have h' : (Option.casesOn (overAt? xs vs o) none (fun r => some (x :: r)) : Option (List AVal)) = some r := h
    cases hr : overAt? xs vs o with
    | none => rw [hr] at h'; cases h'
    | some r' =>
      rw [hr] at h'
      simp only [Option.some.injEq] at h'
      obtain ⟨e, hl⟩ := ih r' hr
      subst h' e
      refine ⟨?_, by simp; omega⟩
      simp [show o + 1 + vs.length = (o + vs.length) + 1 from by omega]

theorem allOne_eq : ∀ (l : List AVal), allOne l = true → ∀ a ∈ l, a.oneCell = true
  | [], _, a, h => by cases h
  | x :: xs, h, a, ha => by
    have h' : (Bool.casesOn x.oneCell false (allOne xs) : Bool) = true := h
    cases hx : x.oneCell with
    | false => rw [hx] at h'; cases h'
    | true =>
      rw [hx] at h'
      cases ha with
      | head => exact hx
      | tail _ hm => exact allOne_eq xs h' a hm

theorem isNil_eq {α : Type} {l : List α} (h : isNil l = true) : l = [] := by
  cases l with
  | nil => rfl
  | cons => cases h

theorem mapO_some {α β : Type} (f : α → Option β) : ∀ (l : List α) (r : List β), mapO f l = some r → r.length = l.length ∧ ∀ (i : Nat) (a : α), l[i]? = some a → ∃ b, f a = some b ∧ r[i]? = some b
  | [], r, h => by simp [mapO] at h; subst h; simp
  | x :: xs, r, h => by
    simp only [mapO] at h
    cases hx : f x with
    | none => rw [hx] at h; cases h
    | some b =>
      rw [hx] at h
      simp only at h
      cases hr : mapO f xs with
      | none => rw [hr] at h; cases h
      | some bs =>
        rw [hr] at h
        simp only [Option.some.injEq] at h
        subst h
        obtain ⟨hl, hi⟩ := mapO_some f xs bs hr
        refine ⟨by simp [hl], fun i a ha => ?_⟩
        cases i with
        | zero => simp at ha; subst ha; exact ⟨b, hx, by simp⟩
        | succ i => simpa using hi i a (by simpa using ha)

/-! Trees. -/

namespace T
variable {α : Type}
theorem get_leaf (k : Nat) : (leaf : T α).get k = none := rfl
theorem get_zero (l : T α) (v : Option α) (r : T α) : (node l v r).get 0 = v := rfl
theorem get_succ (l : T α) (v : Option α) (r : T α) (j : Nat) : (node l v r).get (j + 1) = if j % 2 = 0 then l.get (j / 2) else r.get (j / 2) := by
  have : (node l v r).get (j + 1) = (Bool.casesOn (Nat.beq (j % 2) 0) (r.get (j / 2)) (l.get (j / 2)) : Option α) := rfl
  rw [this]
  cases hb : Nat.beq (j % 2) 0 with
  | true => simp [Nat.eq_of_beq_eq_true hb]
  | false =>
    have := Nat.ne_of_beq_eq_false hb
    simp [this]

theorem setAux_zero (v : Option α) (t : T α) (k : Nat) : setAux v 0 t k = t := rfl
theorem setAux_leaf_zero (v : Option α) (n : Nat) : setAux v (n + 1) (leaf : T α) 0 = node leaf v leaf := rfl
theorem setAux_leaf_succ (v : Option α) (n j : Nat) : setAux v (n + 1) (leaf : T α) (j + 1) = if j % 2 = 0 then node (setAux v n leaf (j / 2)) none leaf else node leaf none (setAux v n leaf (j / 2)) := by
  have : setAux v (n + 1) (leaf : T α) (j + 1) = (Bool.casesOn (Nat.beq (j % 2) 0) (node leaf none (setAux v n leaf (j / 2))) (node (setAux v n leaf (j / 2)) none leaf) : T α) := rfl
  rw [this]
  cases hb : Nat.beq (j % 2) 0 with
  | true => simp [Nat.eq_of_beq_eq_true hb]
  | false => simp [Nat.ne_of_beq_eq_false hb]
theorem setAux_node_zero (v : Option α) (n : Nat) (l r : T α) (x : Option α) : setAux v (n + 1) (node l x r) 0 = node l v r := rfl
theorem setAux_node_succ (v : Option α) (n j : Nat) (l r : T α) (x : Option α) : setAux v (n + 1) (node l x r) (j + 1) = if j % 2 = 0 then node (setAux v n l (j / 2)) x r else node l x (setAux v n r (j / 2)) := by
  have : setAux v (n + 1) (node l x r) (j + 1) = (Bool.casesOn (Nat.beq (j % 2) 0) (node l x (setAux v n r (j / 2))) (node (setAux v n l (j / 2)) x r) : T α) := rfl
  rw [this]
  cases hb : Nat.beq (j % 2) 0 with
  | true => simp [Nat.eq_of_beq_eq_true hb]
  | false => simp [Nat.ne_of_beq_eq_false hb]

theorem get_setAux (v : Option α) : ∀ (n : Nat) (t : T α) (k i : Nat), k < n → (setAux v n t k).get i = if i = k then v else t.get i
  | 0, _, k, _, h => absurd h (Nat.not_lt_zero k)
  | n + 1, t, k, i, h => by
    have ih := get_setAux v n
    cases t with
    | leaf =>
      cases k with
      | zero =>
        rw [setAux_leaf_zero]
        cases i with
        | zero => simp [get_zero]
        | succ i => simp [get_succ, get_leaf]
      | succ k =>
        rw [setAux_leaf_succ]
        by_cases hk : k % 2 = 0
        · rw [if_pos hk]
          cases i with
          | zero => simp [get_zero, get_leaf]
          | succ i =>
            rw [get_succ]
            by_cases hi : i % 2 = 0
            · rw [if_pos hi, ih _ _ _ (by omega), get_leaf, get_leaf]
              by_cases e : i / 2 = k / 2
              · rw [if_pos e, if_pos (by omega)]
              · rw [if_neg e, if_neg (by omega)]
            · rw [if_neg hi, if_neg (by omega)]; rfl
        · rw [if_neg hk]
          cases i with
          | zero => simp [get_zero, get_leaf]
          | succ i =>
            rw [get_succ]
            by_cases hi : i % 2 = 0
            · rw [if_pos hi, if_neg (by omega)]; rfl
            · rw [if_neg hi, ih _ _ _ (by omega), get_leaf, get_leaf]
              by_cases e : i / 2 = k / 2
              · rw [if_pos e, if_pos (by omega)]
              · rw [if_neg e, if_neg (by omega)]
    | node l x r =>
      cases k with
      | zero =>
        rw [setAux_node_zero]
        cases i with
        | zero => simp [get_zero]
        | succ i => simp [get_succ]
      | succ k =>
        rw [setAux_node_succ]
        by_cases hk : k % 2 = 0
        · rw [if_pos hk]
          cases i with
          | zero => simp [get_zero]
          | succ i =>
            rw [get_succ, get_succ]
            by_cases hi : i % 2 = 0
            · rw [if_pos hi, if_pos hi, ih _ _ _ (by omega)]
              by_cases e : i / 2 = k / 2
              · rw [if_pos e, if_pos (by omega)]
              · rw [if_neg e, if_neg (by omega)]
            · rw [if_neg hi, if_neg hi, if_neg (by omega)]
        · rw [if_neg hk]
          cases i with
          | zero => simp [get_zero]
          | succ i =>
            rw [get_succ, get_succ]
            by_cases hi : i % 2 = 0
            · rw [if_pos hi, if_pos hi, if_neg (by omega)]
            · rw [if_neg hi, if_neg hi, ih _ _ _ (by omega)]
              by_cases e : i / 2 = k / 2
              · rw [if_pos e, if_pos (by omega)]
              · rw [if_neg e, if_neg (by omega)]

theorem get_set (t : T α) (k : Nat) (v : Option α) (i : Nat) : (t.set k v).get i = if i = k then v else t.get i :=
  get_setAux v (k + 1) t k i (Nat.lt_succ_self k)
end T

theorem Heap.get_put (σ : Heap) (b : Nat) (o : AObj) (i : Nat) : (σ.put b o).get i = if i = b then some o else σ.get i := T.get_set _ _ _ _
theorem Heap.get_kill (σ : Heap) (b i : Nat) : (σ.kill b).get i = if i = b then none else σ.get i := T.get_set _ _ _ _
theorem Heap.get_new (σ : Heap) (o : AObj) (i : Nat) : (σ.new o).get i = if i = σ.next then some o else σ.get i := T.get_set _ _ _ _

/-! Temporaries. -/

def Tmps.full : Nat → Tmps → Prop
  | 0, .leaf _ => True
  | n + 1, .node a b c d => full n a ∧ full n b ∧ full n c ∧ full n d
  | _, _ => False

theorem Tmps.put_full (v : AVal) : ∀ (p : List D4) (t : Tmps), Tmps.full p.length t → Tmps.full p.length (Tmps.put v p t)
  | [], t, _ => trivial
  | d :: p, .leaf _, h => by cases h
  | d :: p, .node a b c e, h => by
    obtain ⟨ha, hb, hc, he⟩ := h
    have ih := Tmps.put_full v p
    cases d
    · exact ⟨ih a ha, hb, hc, he⟩
    · exact ⟨ha, ih b hb, hc, he⟩
    · exact ⟨ha, hb, ih c hc, he⟩
    · exact ⟨ha, hb, hc, ih e he⟩

theorem Tmps.get_put_same (v : AVal) : ∀ (p : List D4) (t : Tmps), Tmps.full p.length t → Tmps.get p (Tmps.put v p t) = v
  | [], t, _ => rfl
  | d :: p, .leaf _, h => by cases h
  | d :: p, .node a b c e, h => by
    obtain ⟨ha, hb, hc, he⟩ := h
    have ih := Tmps.get_put_same v p
    cases d
    · exact ih a ha
    · exact ih b hb
    · exact ih c hc
    · exact ih e he

theorem Tmps.get_put_other (v : AVal) : ∀ (p q : List D4) (t : Tmps), Tmps.full p.length t → p.length = q.length → p ≠ q → Tmps.get q (Tmps.put v p t) = Tmps.get q t
  | [], [], t, _, _, h => absurd rfl h
  | [], _ :: _, _, _, h, _ => by cases h
  | _ :: _, [], _, _, h, _ => by cases h
  | d :: p, d' :: q, .leaf _, h, _, _ => by cases h
  | d :: p, d' :: q, .node a b c e, h, hl, hne => by
    obtain ⟨ha, hb, hc, he⟩ := h
    have hl' : p.length = q.length := by simpa using hl
    have ih := fun t ht hpq => Tmps.get_put_other v p q t ht hl' hpq
    cases d <;> cases d' <;> first
      | rfl
      | exact ih a ha (fun e => hne (by rw [e]))
      | exact ih b hb (fun e => hne (by rw [e]))
      | exact ih c hc (fun e => hne (by rw [e]))
      | exact ih e he (fun e => hne (by rw [e]))

theorem digit_inj {a b : Nat} (ha : a < 4) (hb : b < 4) (h : digit a = digit b) : a = b := by
  match a, ha, b, hb with
  | 0, _, 0, _ | 1, _, 1, _ | 2, _, 2, _ | 3, _, 3, _ => rfl
  | 0, _, 1, _ | 0, _, 2, _ | 0, _, 3, _ | 1, _, 0, _ | 1, _, 2, _ | 1, _, 3, _ | 2, _, 0, _ | 2, _, 1, _ | 2, _, 3, _ | 3, _, 0, _ | 3, _, 1, _ | 3, _, 2, _ => cases h

theorem pathOf_inj {a b : Nat} (ha : a < 256) (hb : b < 256) (h : pathOf a = pathOf b) : a = b := by
  simp only [pathOf, List.cons.injEq, and_true] at h
  obtain ⟨h0, h1, h2, h3⟩ := h
  have e0 : a % 4 = b % 4 := digit_inj (Nat.mod_lt _ (by decide)) (Nat.mod_lt _ (by decide)) h0
  have e1 : a / 4 % 4 = b / 4 % 4 := digit_inj (Nat.mod_lt _ (by decide)) (Nat.mod_lt _ (by decide)) h1
  have e2 : a / 16 % 4 = b / 16 % 4 := digit_inj (Nat.mod_lt _ (by decide)) (Nat.mod_lt _ (by decide)) h2
  have e3 : a / 64 % 4 = b / 64 % 4 := digit_inj (Nat.mod_lt _ (by decide)) (Nat.mod_lt _ (by decide)) h3
  omega

theorem tmpOf_setTmp {ts : Tmps} (hf : ts.full 4) {t u : Nat} (ht : t < 256) (hu : u < 256) (v : AVal) : tmpOf (setTmp ts t v) u = if u = t then v else tmpOf ts u := by
  by_cases e : u = t
  · subst e
    rw [if_pos rfl]
    exact Tmps.get_put_same v (pathOf u) ts hf
  · rw [if_neg e]
    exact Tmps.get_put_other v (pathOf t) (pathOf u) ts hf rfl (fun h => e (pathOf_inj ht hu h).symm)

theorem setTmp_full {ts : Tmps} (hf : ts.full 4) (t : Nat) (v : AVal) : (setTmp ts t v).full 4 := Tmps.put_full v (pathOf t) ts hf

theorem Tmps.empty_full : Tmps.empty.full 4 := by simp [Tmps.empty, Tmps.e3, Tmps.e2, Tmps.e1, Tmps.e0, Tmps.full]

theorem tmpOf_empty (t : Nat) : tmpOf .empty t = .undef := by
  have hd : ∀ n, digit n = .q0 ∨ digit n = .q1 ∨ digit n = .q2 ∨ digit n = .q3 := fun n => by
    cases h : digit n <;> simp
  unfold tmpOf pathOf
  rcases hd (Nat.mod t 4) with h0 | h0 | h0 | h0 <;> rcases hd (Nat.mod (Nat.div t 4) 4) with h1 | h1 | h1 | h1 <;>
    rcases hd (Nat.mod (Nat.div t 16) 4) with h2 | h2 | h2 | h2 <;> rcases hd (Nat.mod (Nat.div t 64) 4) with h3 | h3 | h3 | h3 <;>
    (rw [h0, h1, h2, h3]; rfl)

end Go.Ab
