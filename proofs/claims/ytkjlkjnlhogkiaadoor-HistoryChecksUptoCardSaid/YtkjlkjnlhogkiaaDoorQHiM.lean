/- What the two walks read and write. No condition. -/
import Derived.Test.YtkjlkjnlhogkiaaDoorQHiB
namespace Go.Proofs.YtkjlkjnlhogkiaaDoor.hist
open Go.Ab Go.Hist
set_option linter.unusedSimpArgs false
set_option linter.unusedVariables false
abbrev ca (c : Ca) : List V := [.int .i64 c.c0, .int .i64 c.c1, .int .i64 c.c2, .int .i64 c.c3, .int .i64 c.c4, .int .i64 c.c5, .int .i64 c.c6, .int .i64 c.c7]
abbrev re (r : Re) : List V := [.int .i64 r.r0, .int .i64 r.r1]
abbrev rowE (x : Ev) : List V := [.bool x.fin, .int .i64 x.core, .int .i64 x.call.c0, .int .i64 x.call.c1, .int .i64 x.call.c2, .int .i64 x.call.c3, .int .i64 x.call.c4, .int .i64 x.call.c5, .int .i64 x.call.c6, .int .i64 x.call.c7, .int .i64 x.res.r0, .int .i64 x.res.r1]
abbrev rowP (o : Hop) : List V := [.int .i64 o.core, .int .i64 o.call.c0, .int .i64 o.call.c1, .int .i64 o.call.c2, .int .i64 o.call.c3, .int .i64 o.call.c4, .int .i64 o.call.c5, .int .i64 o.call.c6, .int .i64 o.call.c7, .int .i64 o.beg, .int .i64 o.fin, .int .i64 o.res.r0, .int .i64 o.res.r1]
abbrev rowR (o : Hop) : List V := [.int .i64 o.core, .int .i64 o.call.c0, .int .i64 o.call.c1, .int .i64 o.call.c2, .int .i64 o.call.c3, .int .i64 o.call.c4, .int .i64 o.call.c5, .int .i64 o.call.c6, .int .i64 o.call.c7, .int .i64 o.res.r0, .int .i64 o.res.r1, .int .i64 o.beg, .int .i64 o.fin]
/-- rows, one behind the other -/
def flat {α : Type} (f : α → List V) (l : List α) : List V := (l.map f).flatten
theorem flat_len {α : Type} {f : α → List V} {n : Nat} (hf : ∀ a, (f a).length = n) (l : List α) : (flat f l).length = l.length * n := by
  induction l with
  | nil => simp [flat]
  | cons a l ih => simp only [flat, List.map_cons, List.flatten_cons, List.length_append, List.length_cons] at ih ⊢; rw [ih, hf, Nat.add_mul]; omega
theorem flat_get {α : Type} {f : α → List V} {n : Nat} (hf : ∀ a, (f a).length = n) {l : List α} {i : Nat} {a : α} (h : l[i]? = some a) {j : Nat} (hj : j < n) : (flat f l)[i * n + j]? = (f a)[j]? := by
  induction l generalizing i with
  | nil => simp at h
  | cons b l ih =>
    simp only [flat, List.map_cons, List.flatten_cons]
    cases i with
    | zero =>
      simp at h; subst h
      rw [List.getElem?_append_left (by rw [hf]; omega)]; simp
    | succ i =>
      have := ih (i := i) (by simpa using h)
      rw [List.getElem?_append_right (by rw [hf, Nat.add_mul]; omega), hf, ← this]
      congr 1; rw [Nat.add_mul]; omega
theorem flat_push {α : Type} (f : α → List V) (l : List α) (a : α) : flat f (l ++ [a]) = flat f l ++ f a := by simp [flat]
/-- an element written over -/
theorem flat_over {α : Type} {f : α → List V} {n : Nat} (hf : ∀ a, (f a).length = n) {l : List α} {i : Nat} {a b : α} (h : l[i]? = some a) {q : Nat} {vs : List V} (hq : q + vs.length ≤ n) (hb : f b = over (f a) q vs) :
    over (flat f l) (i * n + q) vs = flat f (l.set i b) := by
  have hi := (List.getElem?_eq_some_iff.1 h).1
  have hle : i * n + n ≤ l.length * n := by rw [← Nat.succ_mul]; exact Nat.mul_le_mul_right n hi
  apply List.ext_getElem?
  intro j
  rw [over_get (by rw [flat_len hf]; omega)]
  by_cases hj : j < l.length * n
  · have hn : 0 < n := by
      rcases Nat.eq_zero_or_pos n with h0 | h0
      · rw [h0] at hj; simp at hj
      · exact h0
    obtain ⟨k, r, hr, rfl⟩ : ∃ k r, r < n ∧ j = k * n + r := ⟨j / n, j % n, Nat.mod_lt _ hn, by rw [Nat.mul_comm]; exact (Nat.div_add_mod j n).symm⟩
    have hk : k < l.length := by
      rcases Nat.lt_or_ge k l.length with h1 | h1
      · exact h1
      · have := Nat.mul_le_mul_right n h1; omega
    by_cases hki : k = i
    · subst hki
      rw [flat_get hf (l := l.set k b) (i := k) (a := b) (List.getElem?_set_self hk) hr, hb, over_get (by rw [hf]; exact hq), flat_get hf h hr]
      by_cases hin : q ≤ r ∧ r < q + vs.length
      · rw [if_pos (by omega), if_pos hin]; congr 1; omega
      · rw [if_neg (by omega), if_neg hin]
    · have h2 : l[k]? = some l[k] := List.getElem?_eq_getElem hk
      rw [flat_get hf (l := l.set i b) (i := k) (a := l[k]) (by rw [List.getElem?_set_ne (fun e => hki e.symm)]; exact h2) hr, flat_get hf h2 hr, if_neg ?_]
      intro hin
      rcases Nat.lt_or_gt_of_ne hki with h3 | h3
      · have := Nat.mul_le_mul_right n (show k + 1 ≤ i from h3)
        rw [Nat.add_mul] at this; omega
      · have := Nat.mul_le_mul_right n (show i + 1 ≤ k from h3)
        rw [Nat.add_mul] at this; omega
  · rw [if_neg (by omega), List.getElem?_eq_none (by rw [flat_len hf]; omega), List.getElem?_eq_none (by rw [flat_len hf]; simp; omega)]

/-! elements -/
/-- an element of a slice: its place, its parts -/
theorem at_row {α : Type} {f : α → List V} {n : Nat} (hf : ∀ a, (f a).length = n) (hn : 0 < n) {h : H} {s : V} {l : List α} (x : Sli h n s (flat f l)) {i : Nat} {a : α} (e : l[i]? = some a) :
    ∃ b q, s.blk b ∧ (∀ (h' : H) (k : K), o_ixs n s (.int .i64 (i : Int)) h' k = k (.ptr b q) h') ∧
      (∀ (h' : H), (∀ p, s.blk p → h'.get p = h.get p) → h.nx.toNat ≤ h'.nx.toNat → (∀ (j : Nat) (v : V) (k : K), (f a)[j]? = some v → o_ld1 (.ptr b (q + j)) h' k = k v h') ∧
        ∀ (j m : Nat) (vs : List V) (k : K), j + m ≤ n → ((f a).drop j).take m = vs → o_ldn m (.ptr b (q + j)) h' k = k (.agg vs) h') ∧
      ∀ (h' : H) (vs : List V) (c : α) (j : Nat), (∀ p, s.blk p → h'.get p = h.get p) → h.nx.toNat ≤ h'.nx.toNat → j + vs.length ≤ n → (∀ v ∈ vs, v.one = true) → f c = over (f a) j vs →
        ∃ h2, (∀ (k : K), o_stn vs.length (.ptr b (q + j)) (.agg vs) h' k = k (.tup []) h2) ∧ (∀ (v : V) (k : K), vs = [v] → o_st1 (.ptr b (q + j)) v h' k = k (.tup []) h2) ∧ Sli h2 n s (flat f (l.set i c)) ∧ Mod s.blk h' h2 ∧ h2.nx = h'.nx ∧ (Ahead h' → Ahead h2) := by
  have hi := (List.getElem?_eq_some_iff.1 e).1
  obtain ⟨b, q, L, hc, hb, hq, hL, hix, hov⟩ := x.elt (i := (i : Int)) (by omega) (n := l.length) (flat_len hf l) (by omega) hn
  simp only [Int.toNat_natCast] at hL hov
  have hget : ∀ j, j < n → L[q + j]? = (f a)[j]? := fun j hj => by rw [hL j hj, flat_get hf e hj]
  have hcell : ∀ h' : H, (∀ p, s.blk p → h'.get p = h.get p) → h.nx.toNat ≤ h'.nx.toNat → Cells h' b L := fun h' hg hx => ⟨Nat.lt_of_lt_of_le hc.lt hx, by rw [hg b hb]; exact hc.ex⟩
  refine ⟨b, q, hb, hix, fun h' hg hx => ⟨fun j v k hv => ?_, fun j m vs k hjm hvs => ?_⟩, fun h' vs c j hg hx hjn h1 hfc => ?_⟩
  · have hj : j < n := by rw [← hf a]; exact (List.getElem?_eq_some_iff.1 hv).1
    exact (hcell h' hg hx).ldv k (by rw [hget j hj, hv])
  · rw [(hcell h' hg hx).ldp k (by omega)]
    congr 2
    rw [← hvs]
    apply List.ext_getElem?
    intro r
    by_cases hr : r < m
    · rw [List.getElem?_take_of_lt hr, List.getElem?_drop, List.getElem?_take_of_lt hr, List.getElem?_drop, show q + j + r = q + (j + r) by omega, hget _ (by omega)]
    · rw [List.getElem?_eq_none (by simp; omega), List.getElem?_eq_none (by simp; omega)]
  · have hC := hcell h' hg hx
    have hw := hC.wn (i := q + j) (vs := vs) (by omega) h1
    refine ⟨h'.wn b (q + j) vs, fun k => hC.sta k rfl (by omega) h1, fun v k hv => ?_, ?_, (Mod.wn h' b _ vs).weaken fun p _ hp => by subst hp; exact hb, H.nx_wn _ _ _ _, fun ha => ha.wn (Nat.lt_of_lt_of_le hc.lt hx) _ _⟩
    · subst hv
      exact hC.st k (by simp at hjn; omega) (h1 v (by simp))
    · have := hov (h'.wn b (q + j) vs) vs j hjn hw
      rw [flat_over hf e hjn hfc] at this
      exact this
theorem eqa8 (a b : Ca) (neg : Bool) (h : H) (k : K) : o_eqa nS [false, false, false, false, false, false, false, false] neg (.agg (ca a)) (.agg (ca b)) h k = k (.bool (neg != decide (a = b))) h := by
  have := o_eqa_iv nS (sh := [false, false, false, false, false, false, false, false]) (by decide) (a := [a.c0, a.c1, a.c2, a.c3, a.c4, a.c5, a.c6, a.c7]) (b := [b.c0, b.c1, b.c2, b.c3, b.c4, b.c5, b.c6, b.c7]) rfl rfl neg h k
  have e : ([a.c0, a.c1, a.c2, a.c3, a.c4, a.c5, a.c6, a.c7] = [b.c0, b.c1, b.c2, b.c3, b.c4, b.c5, b.c6, b.c7]) ↔ a = b := by cases a; cases b; simp
  rw [decide_eq_decide.2 e] at this
  exact this
theorem eqa2 (a b : Re) (neg : Bool) (h : H) (k : K) : o_eqa nS [false, false] neg (.agg (re a)) (.agg (re b)) h k = k (.bool (neg != decide (a = b))) h := by
  have := o_eqa_iv nS (sh := [false, false]) (by decide) (a := [a.r0, a.r1]) (b := [b.r0, b.r1]) rfl rfl neg h k
  have e : ([a.r0, a.r1] = [b.r0, b.r1]) ↔ a = b := by cases a; cases b; simp
  rw [decide_eq_decide.2 e] at this
  exact this
theorem vs_re (r : Re) : vsame (.agg (re r)) (.agg (re r)) = true := vsame_row (l := re r) fun v hv => by simp [re] at hv; rcases hv with rfl | rfl <;> exact .inl ⟨_, _, rfl⟩
theorem vs_ca (r : Ca) : vsame (.agg (ca r)) (.agg (ca r)) = true := vsame_row (l := ca r) fun v hv => by simp [ca] at hv; rcases hv with rfl | rfl | rfl | rfl | rfl | rfl | rfl | rfl <;> exact .inl ⟨_, _, rfl⟩
theorem vs_int (n : Int) : vsame (.int .i64 n) (.int .i64 n) = true := by show vsame1 (.int .i64 n) (.int .i64 n) = true; exact vsame_int _ _
end Go.Proofs.YtkjlkjnlhogkiaaDoor.hist
