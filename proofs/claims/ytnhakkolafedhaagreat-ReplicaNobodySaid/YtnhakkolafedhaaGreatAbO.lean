/- Each operation that is turned, but for calls, is sound. -/
import Derived.Test.YtnhakkolafedhaaGreatAbN
set_option linter.unusedVariables false
set_option linter.unusedSimpArgs false
namespace Go.Ab
section
variable {P : Program} {cx : Cx} {σ : Nat → Int}

theorem part_some {t : TypeId} {n : Option Nat} (h : partOf cx t = some n) : (∃ s, n = some s ∧ szOf cx t = some s ∧ aggOf cx t = some true) ∨ (n = none ∧ aggOf cx t = some false) := by
  unfold partOf at h
  cases hs : szOf cx t with
  | none => cases hg : aggOf cx t <;> simp [hs, hg] at h
  | some s => cases hg : aggOf cx t with
    | none => simp [hs, hg] at h
    | some g => cases g with
      | true => simp [hs, hg] at h; exact .inl ⟨s, h.symm, rfl, rfl⟩
      | false => simp [hs, hg] at h; exact .inr ⟨h.symm, rfl⟩

theorem comp_eq {S : Sy} (hS : SyOk σ P S) (hy : Hyp P cx) {o : Oper} {neg : Bool} {t ty : TypeId} {x y : Operand} {x' y' : Opd} {iop : IOp} (ho : o.op = .binOp (if neg then .neq else .eql) t x y ty) (hx : ofOpd x = some x') (hy' : ofOpd y = some y')
    (hc : compEq cx neg t x' y' = some iop) (E : Env) : Sound cx σ P o (exec S E iop) := by
  unfold compEq at hc
  split at hc
  · simp at hc; subst hc
    exact s_bin hS (by cases neg <;> exact ho) hx hy'
  · rename_i hu; simp at hc; subst hc; exact s_eqv hy ho hx hy' hu ⟨fun _ => rfl, fun h => (by cases h), fun h => (by cases h), fun h => (by cases h), fun h => (by cases h)⟩
  · rename_i hu; simp at hc; subst hc; exact s_eqv hy ho hx hy' hu ⟨fun h => (by cases h), fun _ => ⟨_, rfl⟩, fun h => (by cases h), fun h => (by cases h), fun h => (by cases h)⟩
  · rename_i hu; simp at hc; subst hc; exact s_eqv hy ho hx hy' hu ⟨fun h => (by cases h), fun h => (by cases h), fun _ => ⟨_, rfl⟩, fun h => (by cases h), fun h => (by cases h)⟩
  · rename_i hu; simp at hc; subst hc; exact s_eqv hy ho hx hy' hu ⟨fun h => (by cases h), fun h => (by cases h), fun h => (by cases h), fun _ => ⟨_, _, rfl⟩, fun h => (by cases h)⟩
  · rename_i hu; simp at hc; subst hc; exact s_eqv hy ho hx hy' hu ⟨fun h => (by cases h), fun h => (by cases h), fun h => (by cases h), fun h => (by cases h), fun _ => ⟨_, _, _, rfl⟩⟩
  · rename_i hu
    split at hc
    · rename_i he
      simp at hc
      obtain ⟨sh, hsh, rfl⟩ := hc
      exact s_eqa hS hy ho hx hy' hsh (by unfold aggOf; rw [hu]) he
    · cases hc
  · rename_i hu
    split at hc
    · rename_i he
      simp at hc
      obtain ⟨sh, hsh, rfl⟩ := hc
      exact s_eqa hS hy ho hx hy' hsh (by unfold aggOf; rw [hu]) he
    · cases hc
  · cases hc

theorem comp_sound {S : Sy} (hS : SyOk σ P S) (hy : Hyp P cx) {o : Oper} {iop : IOp} (hc : compOp cx o.op = some iop) (hn : ∀ f args tys, o.op ≠ .call { callee := .value f, args := args, argTypes := tys }) (E : Env) : Sound cx σ P o (exec S E iop) := by
  cases ho : o.op with
  | move x =>
    rw [ho] at hc; simp [compOp, Option.bind_eq_some_iff] at hc
    obtain ⟨y, hy1, rfl⟩ := hc
    exact s_mv (.inl ho) hy1
  | assign x =>
    rw [ho] at hc; simp [compOp, Option.bind_eq_some_iff] at hc
    obtain ⟨y, hy1, rfl⟩ := hc
    exact s_mv (.inr ho) hy1
  | pick c a b =>
    rw [ho] at hc; simp [compOp, Option.bind_eq_some_iff] at hc
    obtain ⟨c', h1, a', h2, b', h3, rfl⟩ := hc
    exact s_pick ho h1 h2 h3
  | alloc e =>
    rw [ho] at hc; simp [compOp, Option.bind_eq_some_iff] at hc
    obtain ⟨z, h1, rfl⟩ := hc
    exact s_new hy ho h1
  | box t x =>
    rw [ho] at hc; simp [compOp, Option.bind_eq_some_iff] at hc
    obtain ⟨y, h1, rfl⟩ := hc
    exact s_box ho h1
  | build t ps =>
    rw [ho] at hc; simp [compOp, Option.bind_eq_some_iff] at hc
    obtain ⟨z, h1, d, h2, hc⟩ := hc
    cases d <;> simp [Option.bind_eq_some_iff] at hc
    · obtain ⟨s, h3, q, h4, rfl⟩ := hc
      exact s_build_array hy ho h1 h2 h3 h4
    · obtain ⟨pl, h3, q, h4, rfl⟩ := hc
      exact s_build_struct hy ho h1 h2 h3 h4
  | buildSlice t n ps =>
    rw [ho] at hc; simp [compOp, Option.bind_eq_some_iff] at hc
    obtain ⟨d, h1, hc⟩ := hc
    cases d <;> simp [Option.bind_eq_some_iff] at hc
    obtain ⟨s, h2, z, h3, ⟨⟨h4, h5⟩, h6⟩, q, h7, rfl⟩ := hc
    exact s_bslice hy ho h3 h1 h2 h4 h5 h6 h7
  | load t a =>
    rw [ho] at hc; simp [compOp, Option.bind_eq_some_iff] at hc
    obtain ⟨p, h1, hc⟩ := hc
    rcases part_some h1 with ⟨s, rfl, h2, h3⟩ | ⟨rfl, h2⟩
    · simp [Option.bind_eq_some_iff] at hc; obtain ⟨y, h4, rfl⟩ := hc; exact s_ldn hy ho h4 h3 h2
    · simp [Option.bind_eq_some_iff] at hc; obtain ⟨y, h4, rfl⟩ := hc; exact s_ld1 hy ho h4 h2
  | store t a x =>
    rw [ho] at hc; simp [compOp, Option.bind_eq_some_iff] at hc
    obtain ⟨p, h1, hc⟩ := hc
    rcases part_some h1 with ⟨s, rfl, h2, h3⟩ | ⟨rfl, h2⟩
    · simp [Option.bind_eq_some_iff] at hc; obtain ⟨y, h4, z, h5, rfl⟩ := hc; exact s_stn hy ho h4 h5 h2
    · simp [Option.bind_eq_some_iff] at hc; obtain ⟨h3, y, h4, z, h5, rfl⟩ := hc; exact s_st1 hy ho h4 h5 h3
  | nilCheck x =>
    rw [ho] at hc; simp [compOp, Option.bind_eq_some_iff] at hc
    obtain ⟨y, h1, rfl⟩ := hc
    exact s_nilck ho h1
  | binOp op t x y ty =>
    rw [ho] at hc
    by_cases h1 : op = .eql
    · subst h1
      simp [compOp, Option.bind_eq_some_iff] at hc
      obtain ⟨x', hx, y', hy', hc⟩ := hc
      exact comp_eq (neg := false) hS hy ho hx hy' hc E
    · by_cases h2 : op = .neq
      · subst h2
        simp [compOp, Option.bind_eq_some_iff] at hc
        obtain ⟨x', hx, y', hy', hc⟩ := hc
        exact comp_eq (neg := true) hS hy ho hx hy' hc E
      · cases op <;> first
          | exact absurd rfl h1
          | exact absurd rfl h2
          | (simp [compOp, Option.bind_eq_some_iff] at hc; obtain ⟨x', hx, y', hy', rfl⟩ := hc; exact s_bin hS ho hx hy')
  | unOp op t x =>
    rw [ho] at hc
    cases op <;> simp [compOp, Option.bind_eq_some_iff] at hc
    all_goals (obtain ⟨y, h1, rfl⟩ := hc; first | exact s_notb ho h1 | exact s_neg ho h1)
  | convert s d x =>
    rw [ho] at hc; simp [compOp, Option.bind_eq_some_iff] at hc
    obtain ⟨⟨ds, h0⟩, dd, h1, hc⟩ := hc
    cases dd <;> simp [Option.bind_eq_some_iff] at hc
    obtain ⟨y, h2, rfl⟩ := hc
    exact s_conv hS hy ho h2 h0 h1
  | makeFunc fn a b =>
    rw [ho] at hc
    cases fn <;> simp [compOp, Option.bind_eq_some_iff] at hc
    obtain ⟨a', h1, b', h2, rfl⟩ := hc
    exact s_mkfn ho h1 h2
  | makeMap t r =>
    rw [ho] at hc
    cases r <;> simp [compOp, Option.bind_eq_some_iff] at hc
    subst hc
    exact s_mkmap ho
  | makeSlice t l c =>
    rw [ho] at hc; simp [compOp, Option.bind_eq_some_iff] at hc
    obtain ⟨d, h1, hc⟩ := hc
    cases d <;> simp [Option.bind_eq_some_iff] at hc
    obtain ⟨s, h2, z, h3, ⟨h4, h5⟩, by_, h6, l', h7, c', h8, rfl⟩ := hc
    exact s_mkslice hy ho h7 h8 h3 h1 h2 h6 h4 h5
  | slice t x lo hi mx =>
    rw [ho] at hc; simp [compOp, Option.bind_eq_some_iff] at hc
    obtain ⟨d, h1, hc⟩ := hc
    cases d <;> simp [Option.bind_eq_some_iff] at hc
    · obtain ⟨s, h2, x', h3, lo', h4, hi', h5, mx', h6, rfl⟩ := hc
      exact s_slc hy ho h3 h4 h5 h6 h1 h2
    · obtain ⟨s, h2, x', h3, lo', h4, hi', h5, mx', h6, rfl⟩ := hc
      exact s_slca hy ho h3 h4 h5 h6 h1 h2
  | fieldAddr s x i =>
    rw [ho] at hc; simp [compOp, Option.bind_eq_some_iff] at hc
    obtain ⟨d, h1, hc⟩ := hc
    cases d <;> simp [Option.bind_eq_some_iff] at hc
    obtain ⟨f, h2, hc⟩ := hc
    split at hc
    · rename_i n hns
      simp [Option.bind_eq_some_iff] at hc
      obtain ⟨y, h3, rfl⟩ := hc
      exact s_fa hy ho h3 h1 h2 hns (by omega)
    · cases hc
  | field t x i =>
    rw [ho] at hc; simp [compOp, Option.bind_eq_some_iff] at hc
    obtain ⟨d, h1, hc⟩ := hc
    cases d <;> simp [Option.bind_eq_some_iff] at hc
    obtain ⟨f, h2, n, h3, y, h4, rfl⟩ := hc
    exact s_fld hy ho h4 h1 h2 h3
  | indexAddr t x i =>
    rw [ho] at hc; simp [compOp, Option.bind_eq_some_iff] at hc
    obtain ⟨d, h1, hc⟩ := hc
    cases d <;> simp [Option.bind_eq_some_iff] at hc
    · obtain ⟨s, h2, y, h3, z, h4, rfl⟩ := hc
      exact s_ixs hy ho h3 h4 h1 h2
    · obtain ⟨s, h2, y, h3, z, h4, rfl⟩ := hc
      exact s_ixa hy ho h3 h4 h1 h2
  | index t x i =>
    rw [ho] at hc; simp [compOp, Option.bind_eq_some_iff] at hc
    obtain ⟨d, h1, hc⟩ := hc
    cases d <;> simp [Option.bind_eq_some_iff] at hc
    obtain ⟨s, h2, n, h3, y, h4, z, h5, rfl⟩ := hc
    exact s_ixv hy ho h4 h5 h1 h2 h3
  | lookup t x i ok =>
    rw [ho] at hc; simp [compOp, Option.bind_eq_some_iff] at hc
    obtain ⟨d, h1, hc⟩ := hc
    cases d <;> simp [Option.bind_eq_some_iff, -Bool.exists_bool] at hc
    obtain ⟨g, h2, sh, h3, z, h4, y, h5, q, h6, rfl⟩ := hc
    exact s_lkp hS hy ho h5 h6 h1 h2 h3 h4
  | mapUpdate t m k x =>
    rw [ho] at hc; simp [compOp, Option.bind_eq_some_iff] at hc
    obtain ⟨d, h1, hc⟩ := hc
    cases d <;> simp [Option.bind_eq_some_iff, -Bool.exists_bool] at hc
    obtain ⟨g, h2, sh, h3, m', h4, k', h5, x', h6, rfl⟩ := hc
    exact s_mset hS hy (.inl ho) h4 h5 h6 h1 h2 h3
  | insert t m k x =>
    rw [ho] at hc; simp [compOp, Option.bind_eq_some_iff] at hc
    obtain ⟨d, h1, hc⟩ := hc
    cases d <;> simp [Option.bind_eq_some_iff, -Bool.exists_bool] at hc
    obtain ⟨g, h2, sh, h3, m', h4, k', h5, x', h6, rfl⟩ := hc
    exact s_mset hS hy (.inr ho) h4 h5 h6 h1 h2 h3
  | extract x i =>
    rw [ho] at hc; simp [compOp, Option.bind_eq_some_iff] at hc
    obtain ⟨y, h1, rfl⟩ := hc
    exact s_ext ho h1
  | call c =>
    obtain ⟨callee, args, tys⟩ := c
    rw [ho] at hc
    cases callee with
    | value f =>
      simp [compOp, Option.bind_eq_some_iff] at hc
      obtain ⟨f', h1, as, h2, rfl⟩ := hc
      exact absurd ho (hn _ _ _)
    | invoke r m => simp [compOp, Option.bind_eq_some_iff] at hc
    | builtin b =>
      have e1 : args = args.toList.toArray := by simp
      have e2 : tys = tys.toList.toArray := by simp
      generalize hA : args.toList = la at hc
      generalize hT : tys.toList = lt at hc
      unfold compOp at hc
      simp only [hA, hT] at hc
      split at hc
      · rename_i s x t u
        simp [Option.bind_eq_some_iff] at hc
        obtain ⟨d, h1, hc⟩ := hc
        cases d <;> simp [Option.bind_eq_some_iff] at hc
        obtain ⟨z, h3, sz, h4, by_, h5, ⟨⟨h6, h7⟩, h8⟩, hc⟩ := hc
        rw [hT] at e2
        split at hc
        · rename_i h2
          simp [Option.bind_eq_some_iff] at hc
          obtain ⟨s', h9, x', h10, rfl⟩ := hc
          exact s_app hy (by rw [ho, e2]) hA h9 h10 h1 h2 h4 h3 h5 h8 h6 h7
        · rename_i h2
          simp [Option.bind_eq_some_iff] at hc
          obtain ⟨s', h9, x', h10, rfl⟩ := hc
          exact s_appz hy (by rw [ho, e2]) hA h9 h10 h1 h2 h4 h3 h5 h8 h6 h7
        · cases hc
      · rename_i x
        simp [Option.bind_eq_some_iff] at hc
        obtain ⟨t, h0, d0, h1, hc⟩ := hc
        cases d0 <;> simp [Option.bind_eq_some_iff] at hc
        obtain ⟨y, h2, rfl⟩ := hc
        exact s_capx hy ho hA (by rw [hT]; exact h0) h2 h1
      · rename_i d s
        simp [Option.bind_eq_some_iff] at hc
        obtain ⟨t, h0, d0, h1, hc⟩ := hc
        cases d0 <;> simp [Option.bind_eq_some_iff] at hc
        obtain ⟨sz, h4, s', h9, x', h10, rfl⟩ := hc
        exact s_copy (u := t) hy ho hA (by rw [hT]; exact h0) h9 h10 h1 h4
      · rename_i x
        simp [Option.bind_eq_some_iff] at hc
        obtain ⟨t, h0, d0, h1, hc⟩ := hc
        cases d0 <;> simp [Option.bind_eq_some_iff] at hc
        · obtain ⟨d1, h2, hc⟩ := hc
          cases d1 <;> simp [Option.bind_eq_some_iff] at hc
          subst hc
          exact s_lenc hy ho hA (by rw [hT]; exact h0) (.inr ⟨_, _, h1, h2⟩)
        · obtain ⟨y, h2, rfl⟩ := hc
          exact s_len hy ho hA (by rw [hT]; exact h0) h2 h1
        · subst hc
          exact s_lenc hy ho hA (by rw [hT]; exact h0) (.inl ⟨_, h1⟩)
        · obtain ⟨y, h2, rfl⟩ := hc
          exact s_lenm hy ho hA (by rw [hT]; exact h0) h2 h1
      · rename_i x
        simp [Option.bind_eq_some_iff] at hc
        obtain ⟨t, h0, d0, h1, hc⟩ := hc
        cases d0 <;> simp [Option.bind_eq_some_iff] at hc
        obtain ⟨z, h2, h3, y, h4, rfl⟩ := hc
        exact s_clear hy ho hA (by rw [hT]; exact h0) h4 h1 h2 h3
      · rename_i m k
        simp [Option.bind_eq_some_iff] at hc
        obtain ⟨t, h0, d0, h1, hc⟩ := hc
        cases d0 <;> simp [Option.bind_eq_some_iff, -Bool.exists_bool] at hc
        obtain ⟨g, h2, sh, h3, m', h4, k', h5, rfl⟩ := hc
        exact s_del hS hy ho hA (by rw [hT]; exact h0) h4 h5 h1 h2 h3
      · simp [Option.bind_eq_some_iff] at hc
        obtain ⟨y, h1, ys, h2, rfl⟩ := hc
        exact s_mnx (isMax := false) ho hA h1 h2
      · simp [Option.bind_eq_some_iff] at hc
        obtain ⟨y, h1, ys, h2, rfl⟩ := hc
        exact s_mnx (isMax := true) ho hA h1 h2
      · cases hc
  | _ => rw [ho] at hc; simp [compOp] at hc
end
end Go.Ab
