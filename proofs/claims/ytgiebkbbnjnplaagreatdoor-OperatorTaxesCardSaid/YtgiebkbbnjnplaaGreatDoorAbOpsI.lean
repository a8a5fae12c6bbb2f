/- Operations, one by one. Part I: maps. -/
import Derived.Test.YtgiebkbbnjnplaaGreatDoorAbOpsH
namespace Go.Ab
section
variable {P : Program} {μ : Mu} {σ : Heap} {w : World} {ts : Tmps} {ρ : Operand → Value}

theorem keyKind_some {t : TypeId} {ck : CK} (h : keyKind P t = some ck) : ∃ d, P.underlying t = some d ∧ ((ck = .int ∧ ∃ k, d = .int k) ∨ (ck = .str ∧ d = .string)) := by
  unfold keyKind at h
  split at h
  · rename_i k e
    cases h
    exact ⟨_, e, .inl ⟨rfl, k, rfl⟩⟩
  · rename_i e
    cases h
    exact ⟨_, e, .inr ⟨rfl, rfl⟩⟩
  · cases h

def IsKeyDesc (ck : CK) (d : TypeDesc) : Prop := (ck = .int ∧ ∃ k, d = .int k) ∨ (ck = .str ∧ d = .string)

theorem run_checkKey_any {t : TypeId} {ck : CK} {d : TypeDesc} (ht : P.underlying t = some d) (hd : IsKeyDesc ck d) (e : Bool) (n : Nat) (v : Value) : (Instr.checkKey e (n + 1) t v).run P w = .ok () w := by
  unfold Instr.checkKey
  simp only [Sem.run_bind, run_underlying ht, Result.andThen_ok]
  rcases hd with ⟨_, k, rfl⟩ | ⟨_, rfl⟩ <;> cases v <;> simp

theorem sameNow_rel {ck : CK} {d : TypeDesc} (hd : IsKeyDesc ck d) {a b : AVal} {v u : Value} (ha : VRel μ a v) (hb : VRel μ b u) {r : Bool} (h : eqCell ck a b = some r) :
    Instr.sameNow d v u = some r ∧ (r = true → v = u ∧ Instr.sameBits 10000 u v = true) := by
  rcases hd with ⟨rfl, k, rfl⟩ | ⟨rfl, rfl⟩
  · unfold eqCell at h
    split at h
    · rename_i k1 n1 k2 n2 h0
      cases hk : kindEq k1 k2 with
      | false => rw [hk] at h; cases h
      | true =>
        rw [hk] at h
        have := kindEq_true hk
        subst this
        cases h
        rw [ha.int, hb.int, intEq_eq]
        refine ⟨by simp [Instr.sameNow, BEq.beq], fun hr => ?_⟩
        have := of_decide_eq_true hr
        subst this
        exact ⟨rfl, by simp [Instr.sameBits]⟩
    · rename_i h0; cases h0
    · rename_i h0; cases h0
    · cases h
  · unfold eqCell at h
    split at h
    · rename_i h0; cases h0
    · rename_i s1 s2 h0
      cases h
      rw [ha.str, hb.str, strEq_eq]
      have e1 : ((⟨s1.toArray⟩ : ByteArray) == ⟨s2.toArray⟩) = decide (s1 = s2) := by
        have e0 : ((⟨s1.toArray⟩ : ByteArray) == ⟨s2.toArray⟩) = (s1.toArray == s2.toArray) := rfl
        rw [e0]
        by_cases hs : s1 = s2
        · subst hs; simp
        · have : (s1.toArray == s2.toArray) = false := by simpa using hs
          rw [this]
          simp [hs]
      refine ⟨by simp [Instr.sameNow, e1], fun hr => ?_⟩
      have := of_decide_eq_true hr
      subst this
      refine ⟨rfl, ?_⟩
      have : Instr.sameBits 10000 (.string ⟨s1.toArray⟩) (.string ⟨s1.toArray⟩) = ((⟨s1.toArray⟩ : ByteArray) == ⟨s1.toArray⟩) := rfl
      rw [this, e1]
      exact hr
    · rename_i h0; cases h0
    · cases h

/-- Entries, one by one. -/
def ERel (μ : Mu) : List (AVal × AVal) → List MapEntry → Prop
  | [], [] => True
  | (k, v) :: es, e :: es' => VRel μ k e.key ∧ VRel μ v e.val ∧ ERel μ es es'
  | _, _ => False

theorem ERel.of : ∀ {es : List (AVal × AVal)} {es' : List MapEntry}, es'.length = es.length → (∀ (i : Nat) (k v : AVal), es[i]? = some (k, v) → ∃ e, es'[i]? = some e ∧ VRel μ k e.key ∧ VRel μ v e.val) → ERel μ es es'
  | [], [], _, _ => trivial
  | [], _ :: _, h, _ => by simp at h
  | _ :: _, [], h, _ => by simp at h
  | (k, v) :: es, e :: es', hl, h => by
    obtain ⟨e0, h0, h1, h2⟩ := h 0 k v (by simp)
    simp at h0
    subst h0
    exact ⟨h1, h2, ERel.of (by simpa using hl) fun i k v hi => by simpa using h (i + 1) k v (by simpa using hi)⟩

theorem ERel.to : ∀ {es : List (AVal × AVal)} {es' : List MapEntry}, ERel μ es es' → es'.length = es.length ∧ (∀ (i : Nat) (k v : AVal), es[i]? = some (k, v) → ∃ e, es'[i]? = some e ∧ VRel μ k e.key ∧ VRel μ v e.val)
  | [], [], _ => ⟨rfl, by simp⟩
  | [], _ :: _, h => h.elim
  | _ :: _, [], h => h.elim
  | (k, v) :: es, e :: es', h => by
    obtain ⟨h1, h2, h3⟩ := h
    obtain ⟨g1, g2⟩ := ERel.to h3
    refine ⟨by simp [g1], fun i k' v' hi => ?_⟩
    cases i with
    | zero => simp at hi; obtain ⟨rfl, rfl⟩ := hi; exact ⟨e, by simp, h1, h2⟩
    | succ i => simpa using g2 i k' v' (by simpa using hi)

theorem ERel.push : ∀ {es : List (AVal × AVal)} {es' : List MapEntry}, ERel μ es es' → ∀ {k v : AVal} {e : MapEntry}, VRel μ k e.key → VRel μ v e.val → ERel μ (es ++ [(k, v)]) (es' ++ [e])
  | [], [], _, _, _, _, h1, h2 => ⟨h1, h2, trivial⟩
  | [], _ :: _, h, _, _, _, _, _ => h.elim
  | _ :: _, [], h, _, _, _, _, _ => h.elim
  | (k, v) :: es, e :: es', h, _, _, _, h1, h2 => ⟨h.1, h.2.1, ERel.push h.2.2 h1 h2⟩

/-- The search for a key, on both sides. -/
theorem find_rel {ck : CK} {d : TypeDesc} (hd : IsKeyDesc ck d) {ka : AVal} {kv : Value} (hk : VRel μ ka kv) : ∀ (es : List (AVal × AVal)) (es' : List MapEntry) (i : Nat), ERel μ es es' → ∀ r, findKeyA ck ka es = some r →
    (match r with
    | none => Instr.findNow d kv es' i = some none ∧ (∀ va, putKeyA ck ka va es = es ++ [(ka, va)]) ∧ dropKeyA ck ka es = es
    | some va => ∃ j e, es'[j]? = some e ∧ Instr.findNow d kv es' i = some (some (i + j, e.val)) ∧ VRel μ va e.val ∧ Instr.sameBits 10000 e.key kv = true ∧
        (∀ va' u, VRel μ va' u → ERel μ (putKeyA ck ka va' es) (es'.modify j fun e => { e with key := kv, val := u })) ∧ ERel μ (dropKeyA ck ka es) (es'.eraseIdx j))
  | [], [], i, _, r, h => by
    cases h
    exact ⟨rfl, fun _ => rfl, rfl⟩
  | [], _ :: _, _, h, _, _ => h.elim
  | _ :: _, [], _, h, _, _ => h.elim
  | (k', v') :: es, e :: es', i, hr, r, h => by
    obtain ⟨h1, h2, h3⟩ := hr
    simp only [findKeyA] at h
    cases hc : eqCell ck ka k' with
    | none => rw [hc] at h; cases h
    | some b =>
      rw [hc] at h
      obtain ⟨s1, s2⟩ := sameNow_rel hd hk h1 hc
      cases b with
      | true =>
        simp only [Option.some.injEq] at h
        subst h
        obtain ⟨s3, s4⟩ := s2 rfl
        refine ⟨0, e, by simp, by simp [Instr.findNow, s1], h2, s4, ?_, ?_⟩
        · intro va' u hu
          simp only [putKeyA, hc]
          exact ⟨hk, hu, h3⟩
        · simp only [dropKeyA, hc]
          simpa using h3
      | false =>
        simp only at h
        have ih := find_rel hd hk es es' (i + 1) h3 r h
        cases r with
        | none =>
          obtain ⟨g1, g2, g3⟩ := ih
          exact ⟨by simp [Instr.findNow, s1, g1], fun va => by simp [putKeyA, hc, g2], by simp [dropKeyA, hc, g3]⟩
        | some va =>
          obtain ⟨j, e', g1, g2, g3, g4, g5, g6⟩ := ih
          refine ⟨j + 1, e', by simpa using g1, ?_, g3, g4, ?_, ?_⟩
          · simp only [Instr.findNow, s1, g2]
            rw [show i + (j + 1) = i + 1 + j from by omega]
          · intro va' u hu
            simp only [putKeyA, hc]
            simp only [List.modify_succ_cons]
            exact ⟨h1, h2, g5 va' u hu⟩
          · simp only [dropKeyA, hc, List.eraseIdx_cons_succ]
            exact ⟨h1, h2, g6⟩

theorem run_findKey' {t : TypeId} {d : TypeDesc} (ht : P.underlying t = some d) {kv : Value} {l : List MapEntry} {a : Option (Nat × Value)} (h : Instr.findNow d kv l 0 = some a) : (Instr.findKey t kv l).run P w = .ok a w := by
  simp [Instr.findKey, run_underlying ht, h]

theorem run_getMap {q : Nat} {es : Array MapEntry} {clk : Nat} (h : w.heap[q]? = some (.map es clk)) : (getObj q).run P w = .ok (.map es clk) w := by
  simp [getObj, Sem.run, h]
theorem run_setMap {q : Nat} {es : Array MapEntry} {clk : Nat} (o : Obj) (h : w.heap[q]? = some (.map es clk)) : (setObj q o).run P w = .ok () { w with heap := w.heap.setIfInBounds q o } := by
  simp [setObj, Sem.run, h]

theorem run_lookup_of {t kt et : TypeId} (ht : P.underlying t = some (.map kt et)) {ck : CK} {d : TypeDesc} (hkd : P.underlying kt = some d) (hd : IsKeyDesc ck d) {info : TypeInfo} (hi : P.info? et = some info) {zv : Value} (hzv : info.zero = some zv)
    {x kv : Value} {es' : Array MapEntry} (hget : (x = .map none ∧ es' = #[]) ∨ ∃ p clk, x = .map (some p) ∧ w.heap[p]? = some (.map es' clk)) {a : Option (Nat × Value)} (hf : Instr.findNow d kv es'.toList 0 = some a) (ok : Bool) :
    (Instr.lookup t x kv ok).run P w = .ok (if ok then .tuple #[(a.map (·.2)).getD zv, .bool a.isSome] else (a.map (·.2)).getD zv) w := by
  unfold Instr.lookup
  rcases hget with ⟨rfl, rfl⟩ | ⟨p, clk, rfl, hp⟩
  · simp only [Sem.run_bind, run_underlying ht, Result.andThen_ok, Sem.run_pure, run_checkKey_any hkd hd, run_findKey' hkd hf]
    cases a with
    | none => simp only [Sem.run_bind, run_zeroValue hi hzv, Result.andThen_ok, Sem.run_pure]; rfl
    | some a => rfl
  · simp only [Sem.run_bind, run_underlying ht, Result.andThen_ok, Sem.run_pure, run_getMap hp, run_checkKey_any hkd hd, run_findKey' hkd hf]
    cases a with
    | none => simp only [Sem.run_bind, run_zeroValue hi hzv, Result.andThen_ok, Sem.run_pure]; rfl
    | some a => rfl

theorem good_lookup (r : Rel μ σ w) (h : HOpd P μ ts ρ) {t kt et : TypeId} (ht : P.underlying t = some (.map kt et)) {ck : CK} (hk : keyKind P kt = some ck) {info : TypeInfo} (hi : P.info? et = some info) {z : AVal} (hz : info.zero.bind (ofValue 6) = some z)
    {x i : Operand} {x' i' : Opd} (hx : compOpd P x = some x') (hix : compOpd P i = some i') (ok : Bool) :
    Good μ σ w (oLookup ck z x' i' ok ts σ) ((do pure (Next.value (← Instr.lookup t (ρ x) (ρ i) ok)) : Sem Next).run P w) := by
  have hrx := h _ _ hx
  have hri := h _ _ hix
  obtain ⟨d, hkd, hd⟩ := keyKind_some hk
  obtain ⟨zv, hzv, hzr⟩ : ∃ zv, info.zero = some zv ∧ VRel μ z zv := by
    cases hzz : info.zero with
    | none => rw [hzz] at hz; cases hz
    | some zv => rw [hzz] at hz; exact ⟨zv, rfl, ofValue_rel μ _ _ _ hz⟩
  have key : ∀ (es : List (AVal × AVal)) (es' : Array MapEntry), ERel μ es es'.toList → ((ρ x = .map none ∧ es' = #[]) ∨ ∃ p clk, ρ x = .map (some p) ∧ w.heap[p]? = some (.map es' clk)) → ∀ res, findKeyA ck (i'.ev ts) es = some res →
      ∃ v b, (Instr.lookup t (ρ x) (ρ i) ok).run P w = .ok (if ok then .tuple #[v, .bool b] else v) w ∧ (match res with | some va => VRel μ va v ∧ b = true | none => v = zv ∧ b = false) := by
    intro es es' he hg res hres
    have hf := find_rel hd hri es es'.toList 0 he res hres
    cases res with
    | none =>
      obtain ⟨g1, _⟩ := hf
      exact ⟨_, _, run_lookup_of ht hkd hd hi hzv hg g1 ok, rfl, rfl⟩
    | some va =>
      obtain ⟨j, e, _, g2, g3, _⟩ := hf
      exact ⟨_, _, run_lookup_of ht hkd hd hi hzv hg g2 ok, g3, rfl⟩
  have fin : ∀ (res : Option AVal) (v : Value) (b : Bool), (match res with | some va => VRel μ va v ∧ b = true | none => v = zv ∧ b = false) →
      (Instr.lookup t (ρ x) (ρ i) ok).run P w = .ok (if ok then .tuple #[v, .bool b] else v) w →
      Good μ σ w (match (some res : Option (Option AVal)) with
        | none => .fail
        | some (some v) => .val (Bool.casesOn ok v (.tuple [v, .bool true])) σ
        | some none => .val (Bool.casesOn ok z (.tuple [z, .bool false])) σ) ((do pure (Next.value (← Instr.lookup t (ρ x) (ρ i) ok)) : Sem Next).run P w) := by
    intro res v b hres hrun
    have hgo : ((do pure (Next.value (← Instr.lookup t (ρ x) (ρ i) ok)) : Sem Next).run P w) = .ok (.value (if ok then .tuple #[v, .bool b] else v)) w := by
      rw [Sem.run_bind, hrun]; rfl
    cases res with
    | none =>
      obtain ⟨rfl, rfl⟩ := hres
      refine Good.val r hgo ?_
      cases ok with
      | false => exact hzr
      | true => simp only [VRel]; exact ⟨_, rfl, .cons hzr (.one (VRel.mkBool _))⟩
    | some va =>
      obtain ⟨hva, rfl⟩ := hres
      refine Good.val r hgo ?_
      cases ok with
      | false => exact hva
      | true => simp only [VRel]; exact ⟨_, rfl, .cons hva (.one (VRel.mkBool _))⟩
  unfold oLookup
  cases hxe : x'.ev ts with
  | map a =>
    rw [hxe] at hrx
    cases a with
    | none =>
      simp only [VRel] at hrx
      obtain ⟨v, b, g1, g2⟩ := key [] #[] trivial (.inl ⟨hrx, rfl⟩) none rfl
      exact fin none v b g2 g1
    | some m =>
      simp only [VRel] at hrx
      obtain ⟨pl, hpl, hv⟩ := hrx
      simp only
      cases hg : σ.get m with
      | none => trivial
      | some ob =>
        cases ob with
        | cells _ => trivial
        | iter _ _ => trivial
        | map es =>
          obtain ⟨m', hm', ho⟩ := r.objs _ _ hg
          rw [hpl] at hm'
          cases hm'
          obtain ⟨_, es', clk, k1, k2, k3⟩ := ho
          have he : ERel μ es es'.toList := ERel.of (by simpa using k2) (by simpa using k3)
          simp only
          cases hfk : findKeyA ck (i'.ev ts) es with
          | none => trivial
          | some res =>
            obtain ⟨v, b, g1, g2⟩ := key es es' he (.inr ⟨_, _, hv, k1⟩) res hfk
            exact fin res v b g2 g1
  | _ => trivial

theorem good_mapUpdate (r : Rel μ σ w) (h : HOpd P μ ts ρ) {t kt et : TypeId} (ht : P.underlying t = some (.map kt et)) {ck : CK} (hk : keyKind P kt = some ck) {m k v : Operand} {m' k' v' : Opd} (hm : compOpd P m = some m') (hkx : compOpd P k = some k') (hv : compOpd P v = some v') :
    Good μ σ w (oMapUpdate ck m' k' v' ts σ) ((do Instr.mapUpdate t (ρ m) (ρ k) (ρ v); pure Next.skip : Sem Next).run P w) := by
  have hrm := h _ _ hm
  have hrk := h _ _ hkx
  have hrv := h _ _ hv
  obtain ⟨d, hkd, hd⟩ := keyKind_some hk
  unfold oMapUpdate
  cases hme : m'.ev ts with
  | map a =>
    rw [hme] at hrm
    cases a with
    | none => trivial
    | some q =>
      simp only [VRel] at hrm
      obtain ⟨pl, hpl, hmv⟩ := hrm
      simp only
      cases hg : σ.get q with
      | none => trivial
      | some ob =>
        cases ob with
        | cells _ => trivial
        | iter _ _ => trivial
        | map es =>
          obtain ⟨m'', hm'', ho⟩ := r.objs _ _ hg
          rw [hpl] at hm''
          cases hm''
          obtain ⟨h0, es', clk, k1, k2, k3⟩ := ho
          have he : ERel μ es es'.toList := ERel.of (by simpa using k2) (by simpa using k3)
          simp only
          cases hfk : findKeyA ck (k'.ev ts) es with
          | none => trivial
          | some res =>
            have hlt : pl.p < w.heap.size := (Array.getElem?_eq_some_iff.1 k1).1
            have step : ∀ (ne : List (AVal × AVal)) (ne' : Array MapEntry) (c : Nat), ERel μ ne ne'.toList → (Instr.mapUpdate t (ρ m) (ρ k) (ρ v)).run P w = .ok () { w with heap := w.heap.setIfInBounds pl.p (.map ne' c) } →
                Good μ σ w (.val .undef (σ.put q (.map ne))) ((do Instr.mapUpdate t (ρ m) (ρ k) (ρ v); pure Next.skip : Sem Next).run P w) := by
              intro ne ne' c hne hrun
              obtain ⟨l1, l2⟩ := hne.to
              obtain ⟨ra, ex⟩ := r.putObj hg (fun _ h => by cases h) hpl (.map ne' c) (o := .map ne) ⟨h0, ne', c, by simp [hlt], by simpa using l1, by simpa using l2⟩
              refine ⟨μ, _, Go.undef, .inr ⟨?_, rfl⟩, ra, ex, VRel.undef μ⟩
              rw [Sem.run_bind, hrun]
              rfl
            have hf := find_rel hd hrk es es'.toList 0 he res hfk
            cases res with
            | none =>
              obtain ⟨g1, g2, _⟩ := hf
              refine step _ (es'.push { key := ρ k, val := ρ v, born := clk }) (clk + 1) ?_ ?_
              · rw [g2, Array.toList_push]
                exact he.push hrk hrv
              · rw [hmv]
                simp only [Instr.mapUpdate, Sem.run_bind, run_underlying ht, Result.andThen_ok, run_getMap k1, run_checkKey_any hkd hd, run_findKey' hkd g1, run_setMap _ k1]
            | some va =>
              obtain ⟨j, e, g0, g1, _, g3, g4, _⟩ := hf
              refine step _ (es'.modify j fun e => { e with key := ρ k, val := ρ v }) clk ?_ ?_
              · have := g4 _ _ hrv
                rw [Array.toList_modify]
                exact this
              · rw [hmv]
                have g0' : es'[0 + j]? = some e := by simpa using g0
                simp only [Instr.mapUpdate, Sem.run_bind, run_underlying ht, Result.andThen_ok, run_getMap k1, run_checkKey_any hkd hd, run_findKey' hkd g1, g0', Option.map_some, Option.getD_some, Instr.keyThatStays, g3, if_true, Sem.run_pure, run_setMap _ k1]
                simp
  | _ => trivial

theorem good_delete (r : Rel μ σ w) (h : HOpd P μ ts ρ) {argTypes : Array TypeId} {ty t kt et : TypeId} (ha0 : argTypes[0]? = some t) (ht : P.underlying t = some (.map kt et)) {ck : CK} (hk : keyKind P kt = some ck) {m k : Operand} {m' k' : Opd} (hm : compOpd P m = some m') (hkx : compOpd P k = some k') :
    Good μ σ w (oDelete ck m' k' ts σ) ((do pure (Next.value (← Builtin.delete_ argTypes ty #[ρ m, ρ k])) : Sem Next).run P w) := by
  have hrm := h _ _ hm
  have hrk := h _ _ hkx
  obtain ⟨d, hkd, hd⟩ := keyKind_some hk
  unfold oDelete
  cases hme : m'.ev ts with
  | map a =>
    rw [hme] at hrm
    cases a with
    | none =>
      simp only [VRel] at hrm
      refine Good.val r (x := .tuple #[]) ?_ (VRel.undef μ)
      rw [hrm]
      simp [Builtin.delete_, ha0, run_underlying ht, run_checkKey_any hkd hd]
    | some q =>
      simp only [VRel] at hrm
      obtain ⟨pl, hpl, hmv⟩ := hrm
      simp only
      cases hg : σ.get q with
      | none => trivial
      | some ob =>
        cases ob with
        | cells _ => trivial
        | iter _ _ => trivial
        | map es =>
          obtain ⟨m'', hm'', ho⟩ := r.objs _ _ hg
          rw [hpl] at hm''
          cases hm''
          obtain ⟨h0, es', clk, k1, k2, k3⟩ := ho
          have he : ERel μ es es'.toList := ERel.of (by simpa using k2) (by simpa using k3)
          simp only
          cases hfk : findKeyA ck (k'.ev ts) es with
          | none => trivial
          | some res =>
            have hlt : pl.p < w.heap.size := (Array.getElem?_eq_some_iff.1 k1).1
            have step : ∀ (ne : List (AVal × AVal)) (ne' : Array MapEntry) (c : Nat), ERel μ ne ne'.toList → (Builtin.delete_ argTypes ty #[ρ m, ρ k]).run P w = .ok (.tuple #[]) { w with heap := w.heap.setIfInBounds pl.p (.map ne' c) } →
                Good μ σ w (.val .undef (σ.put q (.map ne))) ((do pure (Next.value (← Builtin.delete_ argTypes ty #[ρ m, ρ k])) : Sem Next).run P w) := by
              intro ne ne' c hne hrun
              obtain ⟨l1, l2⟩ := hne.to
              obtain ⟨ra, ex⟩ := r.putObj hg (fun _ h => by cases h) hpl (.map ne' c) (o := .map ne) ⟨h0, ne', c, by simp [hlt], by simpa using l1, by simpa using l2⟩
              refine ⟨μ, _, .tuple #[], .inl ?_, ra, ex, VRel.undef μ⟩
              rw [Sem.run_bind, hrun]
              rfl
            have hf := find_rel hd hrk es es'.toList 0 he res hfk
            cases res with
            | none =>
              obtain ⟨g1, _, g2⟩ := hf
              refine step _ es' clk ?_ ?_
              · rw [g2]
                exact he
              · rw [hmv]
                simp [Builtin.delete_, ha0, run_underlying ht, run_getMap k1, run_checkKey_any hkd hd, run_findKey' hkd g1, run_setMap _ k1]
            | some va =>
              obtain ⟨j, e, g0, g1, _, g3, _, g4⟩ := hf
              refine step _ (es'.eraseIdxIfInBounds j) clk ?_ ?_
              · have hj : j < es'.size := by have := (List.getElem?_eq_some_iff.1 g0).1; simpa using this
                have : (es'.eraseIdxIfInBounds j).toList = es'.toList.eraseIdx j := by
                  unfold Array.eraseIdxIfInBounds
                  rw [dif_pos hj]
                  simp
                rw [this]
                exact g4
              · rw [hmv]
                simp [Builtin.delete_, ha0, run_underlying ht, run_getMap k1, run_checkKey_any hkd hd, run_findKey' hkd g1, run_setMap _ k1]
  | _ => trivial

end
end Go.Ab
