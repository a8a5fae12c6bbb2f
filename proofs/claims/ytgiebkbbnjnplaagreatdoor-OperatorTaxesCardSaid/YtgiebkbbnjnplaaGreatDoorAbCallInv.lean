/- What compiles to a call is a call. -/
import Derived.Test.YtgiebkbbnjnplaaGreatDoorAbOpsO
namespace Go.Ab
section
variable {P : Program}

def AOp.isCall : AOp → Bool
  | .call _ _ | .callDyn _ _ | .recover => true
  | _ => false

theorem map_notCall {α : Type} {x : Option α} {f : α → AOp} {b : AOp} (h : x.map f = some b) (hf : ∀ a, (f a).isCall = false) : b.isCall = false := by
  obtain ⟨a, _, rfl⟩ := omap h
  exact hf a

theorem compBin_notCall {op : BinOp} {t : TypeId} {x y : Operand} {a : AOp} (h : compBin P op t x y = some a) : a.isCall = false := by
  unfold compBin at h
  repeat' split at h
  all_goals first | cases h; rfl | cases h

theorem compConvert_notCall {s d : TypeId} {x : Operand} {a : AOp} (h : compConvert P s d x = some a) : a.isCall = false := by
  unfold compConvert at h
  repeat' split at h
  all_goals first | cases h; rfl | cases h

theorem compBuiltin_notCall {b : Builtin} {ts : Array TypeId} {xs : Array Operand} {a : AOp} (h : compBuiltin P b ts xs = some a) : a.isCall = false ∨ a = .recover := by
  unfold compBuiltin at h
  repeat' split at h
  all_goals first | (cases h; exact .inl rfl) | (cases h; exact .inr rfl) | cases h

theorem absurd_call {a : AOp} (h : a.isCall = false) (hc : a.isCall = true) : False := by rw [h] at hc; cases hc

theorem compBuiltin_recover {b : Builtin} {ts : Array TypeId} {xs : Array Operand} (h : compBuiltin P b ts xs = some .recover) : b = .recover ∧ xs = #[] := by
  unfold compBuiltin at h
  repeat' split at h
  all_goals first | (cases h; done) | skip
  all_goals first | (rename_i e; exact ⟨rfl, by simpa using e⟩) | skip

/-- What compiles to a call is a call. -/
theorem compOp_isCall {o : Oper} {a : AOp} (h : compOp P o = some a) (hc : a.isCall = true) :
    (a = .recover ∧ ∃ c, o.op = .call c ∧ c.callee = .builtin .recover ∧ c.args = #[]) ∨
    ∃ c, o.op = .call c ∧ ((∃ f xs fn, a = .call f xs ∧ c.callee = .value (.func f) ∧ compOpds P c.args = some xs ∧ P.funcs[f]? = some fn ∧ fn.body.isSome = true) ∨
      (∃ x x' xs, a = .callDyn x' xs ∧ c.callee = .value x ∧ compOpd P x = some x' ∧ compOpds P c.args = some xs)) := by
  unfold compOp at h
  split at h
  case h_29 =>
    rename_i c e
    split at h
    · rename_i b hcal
      rcases compBuiltin_notCall h with h' | h'
      · exact (absurd_call h' hc).elim
      · subst h'
        obtain ⟨h1, h2⟩ := compBuiltin_recover h
        exact .inl ⟨rfl, c, e, by rw [hcal, h1], h2⟩
    · rename_i f hcal
      split at h
      · cases h
      · rename_i fn hf
        split at h
        · rename_i hb
          obtain ⟨xs, hxs, rfl⟩ := omap h
          exact .inr ⟨c, e, .inl ⟨f, xs, fn, rfl, hcal, hxs, hf, hb⟩⟩
        · split at h
          · split at h
            · cases h; exact (absurd_call rfl hc).elim
            · cases h
          · cases h
    · rename_i x _ hcal
      split at h
      · rename_i x' l hx hl
        cases h
        exact .inr ⟨c, e, .inr ⟨x, x', l, rfl, hcal, hx, hl⟩⟩
      · cases h
    · cases h
  all_goals first
    | exact (absurd_call (compBin_notCall h) hc).elim
    | exact (absurd_call (compConvert_notCall h) hc).elim
    | skip
  all_goals repeat' split at h
  all_goals first
    | cases h; exact (absurd_call rfl hc).elim
    | cases h; done
    | exact (absurd_call (map_notCall h (fun _ => rfl)) hc).elim
    | (obtain ⟨_, _, h⟩ := Option.bind_eq_some_iff.1 h; exact (absurd_call (map_notCall h (fun _ => rfl)) hc).elim)
    | (obtain ⟨_, _, h⟩ := Option.bind_eq_some_iff.1 h; split at h <;> cases h; exact (absurd_call rfl hc).elim)

end
end Go.Ab
