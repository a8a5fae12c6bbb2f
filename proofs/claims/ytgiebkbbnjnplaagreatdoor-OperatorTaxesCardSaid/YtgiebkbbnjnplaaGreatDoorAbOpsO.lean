/- Operations: each that is no call. -/
import Derived.Test.YtgiebkbbnjnplaaGreatDoorAbOpsN
namespace Go.Ab
section
variable {P : Program} {μ : Mu} {σ : Heap} {w : World} {ts : Tmps} {ρ : Operand → Value}

/-- An operation does what its abstract one says; of calls, of recover and of what fails nothing is said. -/
theorem opSound (r : Rel μ σ w) (h : HOpd P μ ts ρ) {o : Oper} {aop : AOp} (hc : compOp P o = some aop) : Good μ σ w (evOp aop noCall ts σ) ((execOp ρ o).run P w) := by
  unfold compOp at hc
  unfold execOp
  split at hc
  · rename_i x e
    rw [e]
    obtain ⟨y, hy, rfl⟩ := omap hc
    exact good_move r h hy
  · rename_i x e
    rw [e]
    obtain ⟨y, hy, rfl⟩ := omap hc
    exact good_move r h hy
  · rename_i c a b e
    rw [e]
    split at hc
    · rename_i c' a' b' h1 h2 h3
      cases hc
      exact good_pick r h h1 h2 h3
    · cases hc
  · rename_i t e
    rw [e]
    obtain ⟨y, hy, rfl⟩ := omap hc
    exact good_alloc (ts := ts) r hy
  · rename_i t x e
    rw [e]
    obtain ⟨y, hy, rfl⟩ := omap hc
    exact good_box r h hy
  · rename_i t parts e
    rw [e]
    split at hc
    · rename_i fs z h1 h2
      split at hc
      · rename_i hf
        obtain ⟨y, hy, rfl⟩ := omap hc
        exact good_buildStruct r h h1 h2 hy (by
          intro f hfm
          obtain ⟨i, hi, rfl⟩ := Array.mem_iff_getElem.1 hfm
          exact (by simpa using hf : ∀ (i : Nat) (x : i < fs.size), (sizeAt P fs[i].type).isSome = true) i hi)
      · cases hc
    · rename_i n el z h1 h2
      obtain ⟨m, hm, hc⟩ := Option.bind_eq_some_iff.1 hc
      obtain ⟨y, hy, rfl⟩ := omap hc
      exact good_buildArray r h h1 h2 hm hy
    · cases hc
  · rename_i t ln parts e
    rw [e]
    split at hc
    · rename_i el h1
      split at hc
      · rename_i n z h2 h3
        split at hc
        · cases hc
        · rename_i hn
          obtain ⟨y, hy, rfl⟩ := omap hc
          simp only [Bool.or_eq_true, decide_eq_true_eq, not_or] at hn
          exact good_buildSlice r h h1 h3 h2 hn.1 hn.2 hy
      · cases hc
    · cases hc
  · rename_i t a e
    rw [e]
    split at hc
    · rename_i n y h1 h2
      cases hc
      exact good_load r h h1 h2
    · cases hc
  · rename_i t a x e
    rw [e]
    split at hc
    · rename_i n a' x' h1 h2 h3
      cases hc
      exact good_store r h h1 h2 h3
    · cases hc
  · rename_i x e
    obtain ⟨y, hy, rfl⟩ := omap hc
    have := good_nilCheck r h hy e
    unfold execOp at this
    exact this
  · rename_i op t x y e2 e
    rw [e]
    exact binSound r h hc
  · rename_i op t x e
    rw [e]
    obtain ⟨y, hy, rfl⟩ := omap hc
    exact good_un r h hy
  · rename_i src dst x e
    rw [e]
    exact convSound r h hc
  · rename_i t x e
    rw [e]
    split at hc
    · cases hc
    · rename_i d h1 h2
      obtain ⟨y, hy, rfl⟩ := omap hc
      exact good_mkIface r h h2 (fun ms hms => h1 ms hms) hy
    · cases hc
  · rename_i f first caps e
    rw [e]
    split at hc
    · rename_i hf
      obtain ⟨y, hy, rfl⟩ := omap hc
      exact good_mkFunc r h hf hy
    · cases hc
  · rename_i t e
    rw [e]
    cases hc
    exact good_mkMap (ts := ts) r
  · rename_i t l c e
    rw [e]
    split at hc
    · rename_i el h1
      split at hc
      · rename_i i z l' c' h2 h3 h4 h5
        split at hc
        · cases hc
        · rename_i hn
          cases hc
          simp only [Bool.or_eq_true, decide_eq_true_eq, not_or] at hn
          exact good_mkSlice r h h1 h2 h3 hn.1 h4 h5
      · cases hc
    · cases hc
  · rename_i t x lo hi mx e
    rw [e]
    split at hc
    · rename_i x' lo' hi' h1 h2 h3 h4 h5
      cases hc
      cases mx with
      | some m => simp only [compOpt] at h5; cases hm : compOpd P m with | none => rw [hm] at h5; cases h5 | some q => rw [hm] at h5; cases h5
      | none => exact good_sliceStr r h h1 h2 h3 h4
    · rename_i el x' lo' hi' mx' h1 h2 h3 h4 h5
      obtain ⟨n, hn, rfl⟩ := omap hc
      exact good_slice r h h1 hn h2 h3 h4 h5
    · rename_i n el x' lo' hi' h1 h2 h3 h4 h5
      obtain ⟨s, hs, hc⟩ := Option.bind_eq_some_iff.1 hc
      split at hc
      · cases hc
      · cases hc
        cases mx with
        | some m => simp only [compOpt] at h5; cases hm : compOpd P m with | none => rw [hm] at h5; cases h5 | some q => rw [hm] at h5; cases h5
        | none => exact good_sliceArr r h h1 hs h2 h3 h4
    · cases hc
  · rename_i s x f e
    rw [e]
    split at hc
    · rename_i fs x' h1 h2
      split at hc
      · rename_i fd h3
        split at hc
        · cases hc
        · cases hc
        · rename_i n h4 h5
          cases hc
          exact good_fieldAddr r h h1 h3 h5 h4 h2
      · cases hc
    · cases hc
  · rename_i t x f e
    rw [e]
    split at hc
    · rename_i fs x' h1 h2
      split at hc
      · rename_i fd h3
        obtain ⟨n, hn, rfl⟩ := omap hc
        exact good_field r h h1 h3 hn h2
      · cases hc
    · cases hc
  · rename_i t x i e
    rw [e]
    split at hc
    · rename_i el x' i' h1 h2 h3
      obtain ⟨n, hn, rfl⟩ := omap hc
      exact good_indexAddr r h h1 hn h2 h3
    · rename_i ln el x' i' h1 h2 h3
      obtain ⟨n, hn, rfl⟩ := omap hc
      exact good_indexArr r h h1 hn h2 h3
    · cases hc
  · rename_i t x i e
    rw [e]
    split at hc
    · rename_i x' i' h1 h2 h3
      cases hc
      exact good_indexStr r h h1 h2 h3
    · rename_i ln el x' i' h1 h2 h3
      split at hc
      · rename_i n s h4 h5
        cases hc
        exact good_index r h h1 h4 h5 h2 h3
      · cases hc
    · cases hc
  · rename_i t x i ok e
    rw [e]
    split at hc
    · rename_i kt et x' i' h1 h2 h3
      split at hc
      · rename_i ck info h4 h5
        split at hc
        · rename_i z h6
          cases hc
          exact good_lookup r h h1 h4 h5 h6 h2 h3 ok
        · cases hc
      · cases hc
    · cases hc
  · rename_i t m k v e
    rw [e]
    split at hc
    · rename_i kt et m' k' v' h1 h2 h3 h4
      split at hc
      · rename_i ck h5
        cases hc
        exact good_mapUpdate r h h1 h5 h2 h3 h4
      · cases hc
    · cases hc
  · rename_i x i e
    rw [e]
    obtain ⟨y, hy, rfl⟩ := omap hc
    exact good_extract r h hy i
  · rename_i t x e
    rw [e]
    split at hc
    · rename_i h1
      obtain ⟨y, hy, rfl⟩ := omap hc
      exact good_rangeStr r h h1 hy
    · cases hc
  · rename_i it e
    rw [e]
    obtain ⟨y, hy, rfl⟩ := omap hc
    exact good_nextStr r h hy
  · rename_i x e
    rw [e]
    obtain ⟨y, hy, rfl⟩ := omap hc
    exact good_panic r h hy
  · rename_i c e
    rw [e]
    split at hc
    · rename_i b hcal
      have := builtinSound r h hc o.type (c.args.map fun | .const _ => true | _ => false)
      simp only [resolve, hcal, Sem.run_bind, Sem.run_pure, Result.andThen_ok, invoke]
      exact this
    · rename_i f hcal
      split at hc
      · cases hc
      · rename_i fn hf
        split at hc
        · obtain ⟨y, hy, rfl⟩ := omap hc
          trivial
        · rename_i hb
          split at hc
          · rename_i hn
            simp only [Bool.and_eq_true, beq_iff_eq] at hn
            split at hc
            · rename_i x' y' hxy
              cases hc
              obtain ⟨a, b, ha, h1, h2⟩ := compOpds_two hxy
              have := good_indexByte r h hf (by simpa using hb) hn.1 hn.2 h1 h2
              simp only [resolve, hcal, ha, Deferred.ofValue, func_opd h f, Sem.run_bind, Sem.run_pure, Result.andThen_ok, invoke]
              have e2 : (#[] ++ Array.map ρ #[a, b]) ++ #[] = #[ρ a, ρ b] := by simp
              rw [e2]
              exact this
            · cases hc
          · cases hc
    · split at hc
      · rename_i x' l _ _
        cases hc
        show Good μ σ w (oCallDyn x' l noCall ts σ) _
        unfold oCallDyn
        split <;> trivial
      · cases hc
    · cases hc
  · rename_i c e
    rw [e]
    split at hc
    · rename_i x hcal
      split at hc
      · rename_i x' l hx hl
        cases hc
        exact good_defer h hcal hx hl
      · cases hc
    · cases hc
  · cases hc

end
end Go.Ab
