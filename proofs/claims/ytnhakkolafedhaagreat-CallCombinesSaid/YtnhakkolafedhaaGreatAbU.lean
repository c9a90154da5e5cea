/- A region that draws its order: what the check of its turned order tells. -/
import Derived.Test.YtnhakkolafedhaaGreatAbT
set_option linter.unusedVariables false
set_option linter.unusedSimpArgs false
namespace Go.Ab

structure ChkOk (ops : Array Oper) (es : List Ent) : Prop where
  lt : ∀ (p : Nat) (e : Ent), es[p]? = some e → e.j < ops.size
  surj : ∀ i, i < ops.size → ∃ (p : Nat) (e : Ent), es[p]? = some e ∧ e.j = i
  jne : ∀ (p q : Nat) (e f : Ent), p < q → es[p]? = some e → es[q]? = some f → e.j ≠ f.j
  dne : ∀ (p q : Nat) (e f : Ent) (d : Pos), p < q → es[p]? = some e → es[q]? = some f → e.io.dst = some d → f.io.dst ≠ some d
  own : ∀ (p : Nat) (e : Ent) (d : Pos), es[p]? = some e → e.io.dst = some d → rdsIn d e.io = false
  rw : ∀ (p q : Nat) (e f : Ent) (d : Pos), p < q → es[p]? = some e → es[q]? = some f → f.io.dst = some d → rdsIn d e.io = true → e.j ∈ f.ps
  wr : ∀ (p q : Nat) (e f : Ent) (d : Pos), p < q → es[p]? = some e → es[q]? = some f → e.io.dst = some d → rdsIn d f.io = true → e.j ∈ f.ps
  seg : ∀ (q : Nat) (f : Ent), es[q]? = some f → (∀ (p : Nat) (e : Ent), p < q → es[p]? = some e → e.io.op.kind ≠ 3) ∨
    ∃ (s : Nat) (e : Ent), s < q ∧ es[s]? = some e ∧ e.j ∈ f.ps ∧ ∀ (y : Nat) (g : Ent), y < q → es[y]? = some g → g.io.op.kind = 3 → y ≤ s
  topo : ∀ (q : Nat) (f : Ent), es[q]? = some f → ∀ z ∈ f.ps, ∃ (p : Nat) (e : Ent), p < q ∧ es[p]? = some e ∧ e.j = z
  mks : ∀ (p : Nat) (e : Ent) (o : Oper), es[p]? = some e → ops[e.j]? = some o → e.io.op.kind = 2 → isMk o.op = true

theorem chkAll_get : ∀ (l before : List Ent), chkAll before l = true → ∀ (p : Nat) (e : Ent), l[p]? = some e → chkAt ((l.take p).reverse ++ before) e = true
  | [], _, _, p, e, h => by simp at h
  | x :: l, before, hc, p, e, h => by
    unfold chkAll at hc
    rw [Bool.and_eq_true] at hc
    cases p with
    | zero => simp at h; subst h; simpa using hc.1
    | succ p =>
      have := chkAll_get l (x :: before) hc.2 p e (by simpa using h)
      simpa using this

theorem segOk_spec {ps : List Nat} : ∀ {B : List Ent}, segOk ps B = true → (∀ x ∈ B, x.io.op.kind ≠ 3) ∨ ∃ (i : Nat) (x : Ent), B[i]? = some x ∧ x.j ∈ ps ∧ ∀ (i' : Nat) (y : Ent), B[i']? = some y → y.io.op.kind = 3 → i ≤ i'
  | [], _ => .inl (by simp)
  | x :: B, h => by
    unfold segOk at h
    rw [Bool.or_eq_true] at h
    by_cases hx : ps.contains x.j = true
    · exact .inr ⟨0, x, by simp, by simpa using hx, fun i' y _ _ => Nat.zero_le _⟩
    · have h := h.resolve_left hx
      rw [Bool.and_eq_true] at h
      have hw : x.io.op.kind ≠ 3 := fun e => by
        have : x.isW = true := by unfold Ent.isW; rw [e]; rfl
        rw [this] at h; simp at h
      rcases segOk_spec h.2 with h1 | ⟨i, y, h1, h2, h3⟩
      · left; intro z hz; rcases List.mem_cons.1 hz with rfl | hz; exact hw; exact h1 z hz
      · right
        refine ⟨i + 1, y, by simpa using h1, h2, fun i' z hz hk => ?_⟩
        cases i' with
        | zero => simp at hz; subst hz; exact absurd hk hw
        | succ i' => have := h3 i' z (by simpa using hz) hk; omega

theorem rev_get {es : List Ent} {p i : Nat} {x : Ent} (hp : p ≤ es.length) (h : (es.take p).reverse[i]? = some x) : i < p ∧ es[p - 1 - i]? = some x := by
  have hl : (es.take p).length = p := by simp; omega
  have hi : i < p := by
    have := (List.getElem?_eq_some_iff.1 h).1
    simp at this; omega
  refine ⟨hi, ?_⟩
  rw [List.getElem?_reverse (by omega), hl, List.getElem?_take_of_lt (by omega)] at h
  exact h
theorem rev_of {es : List Ent} {p q : Nat} {x : Ent} (hp : p ≤ es.length) (hq : q < p) (h : es[q]? = some x) : (es.take p).reverse[p - 1 - q]? = some x := by
  have hl : (es.take p).length = p := by simp; omega
  rw [List.getElem?_reverse (by omega), hl, List.getElem?_take_of_lt (by omega), show p - 1 - (p - 1 - q) = q by omega]
  exact h
theorem rev_mem {es : List Ent} {p q : Nat} {x : Ent} (hp : p ≤ es.length) (hq : q < p) (h : es[q]? = some x) : x ∈ (es.take p).reverse := List.mem_of_getElem? (rev_of hp hq h)
theorem mem_rev {es : List Ent} {p : Nat} {x : Ent} (hp : p ≤ es.length) (h : x ∈ (es.take p).reverse) : ∃ q, q < p ∧ es[q]? = some x := by
  obtain ⟨i, hi, rfl⟩ := List.getElem_of_mem h
  have := rev_get hp (List.getElem?_eq_getElem hi)
  exact ⟨p - 1 - i, by omega, this.2⟩

theorem chk_ok {ops : Array Oper} {es : List Ent} (h : chkEnts ops es = true) : es.length = ops.size ∧ ChkOk ops es := by
  unfold chkEnts at h
  simp only [Bool.and_eq_true] at h
  obtain ⟨⟨⟨⟨h1, h2⟩, h3⟩, h5⟩, h6⟩ := h
  rw [Nat.beq_eq] at h1
  have hle : ∀ {p : Nat} {e : Ent}, es[p]? = some e → p ≤ es.length := fun h => by have := (List.getElem?_eq_some_iff.1 h).1; omega
  have at' : ∀ {p : Nat} {e : Ent}, es[p]? = some e → chkAt (es.take p).reverse e = true := fun {p e} h => by have := chkAll_get es [] h3 p e h; simpa using this
  have parts : ∀ {p : Nat} {e : Ent}, es[p]? = some e →
      ((∀ d, e.io.dst = some d → rdsIn d e.io = false ∧ ∀ x ∈ (es.take p).reverse, x.io.dst ≠ some d ∧ (rdsIn d x.io = true → x.j ∈ e.ps)) ∧
       (∀ x ∈ (es.take p).reverse, ∀ d, x.io.dst = some d → rdsIn d e.io = true → x.j ∈ e.ps) ∧ (∀ x ∈ (es.take p).reverse, x.j ≠ e.j) ∧ segOk e.ps (es.take p).reverse = true ∧
       ∀ z ∈ e.ps, ∃ x ∈ (es.take p).reverse, x.j = z) := fun {p e} h => by
    have := at' h
    unfold chkAt at this
    simp only [Bool.and_eq_true, List.all_eq_true] at this
    obtain ⟨⟨⟨⟨a, b⟩, c⟩, d⟩, f⟩ := this
    refine ⟨fun dd hd => ?_, fun x hx dd hd hr => ?_, fun x hx he => ?_, d, fun z hz => ?_⟩
    · rw [hd] at a
      simp only [Bool.and_eq_true, List.all_eq_true, Bool.not_eq_true', Bool.or_eq_true] at a
      refine ⟨a.1, fun x hx => ⟨fun hxd => ?_, fun hr => ?_⟩⟩
      · have := (a.2 x hx).1
        rw [hxd] at this
        have hb : Nat.beq dd.nat dd.nat = true := by rw [Nat.beq_eq]
        simp [hb] at this
      · rcases (a.2 x hx).2 with h | h
        · rw [hr] at h; cases h
        · simpa using h
    · have := b x hx
      rw [hd] at this
      simp only [Bool.or_eq_true, Bool.not_eq_true'] at this
      rcases this with h | h
      · rw [hr] at h; cases h
      · simpa using h
    · have := c x hx
      rw [he] at this
      have hb : Nat.beq e.j e.j = true := by rw [Nat.beq_eq]
      rw [hb] at this; cases this
    · have := f z hz
      obtain ⟨x, hx, hb⟩ := List.any_eq_true.1 this
      exact ⟨x, hx, by simpa [Nat.beq_eq] using hb⟩
  refine ⟨h1, fun p e h => ?_, fun i hi => ?_, fun p q e f hpq he hf => ?_, fun p q e f d hpq he hf hd => ?_, fun p e d h hd => ((parts h).1 d hd).1, fun p q e f d hpq he hf hd hr => ?_, fun p q e f d hpq he hf hd hr => ?_,
    fun q f h => ?_, fun q f h z hz => ?_, fun p e o h ho hk => ?_⟩
  · have := List.all_eq_true.1 h2 e (List.mem_of_getElem? h)
    exact ltb_iff.1 this
  · have := List.all_eq_true.1 h6 i (by simpa using hi)
    obtain ⟨x, hx, hb⟩ := List.any_eq_true.1 this
    obtain ⟨p, hp, e⟩ := List.getElem_of_mem hx
    exact ⟨p, x, by rw [List.getElem?_eq_getElem hp, e], by simpa [Nat.beq_eq] using hb⟩
  · exact (parts hf).2.2.1 e (rev_mem (hle hf) hpq he)
  · intro hfd; exact (((parts hf).1 d hfd).2 e (rev_mem (hle hf) hpq he)).1 hd
  · exact (((parts hf).1 d hd).2 e (rev_mem (hle hf) hpq he)).2 hr
  · exact (parts hf).2.1 e (rev_mem (hle hf) hpq he) d hd hr
  · rcases segOk_spec (parts h).2.2.2.1 with h' | ⟨i, x, a, b, c⟩
    · exact .inl fun p e hp he => h' e (rev_mem (hle h) hp he)
    · obtain ⟨hi, hx⟩ := rev_get (hle h) a
      refine .inr ⟨q - 1 - i, x, by omega, hx, b, fun y g hy hg hk => ?_⟩
      have := c (q - 1 - y) g (rev_of (hle h) hy hg) hk
      omega
  · obtain ⟨x, hx, e⟩ := (parts h).2.2.2.2 z hz
    obtain ⟨p, hp, hpx⟩ := mem_rev (hle h) hx
    exact ⟨p, x, hp, hpx, e⟩
  · have := List.all_eq_true.1 h5 e (List.mem_of_getElem? h)
    rw [ho, hk] at this
    simp only [Option.all_some] at this
    rw [beqB_eq] at this
    simpa using this

theorem lateOf_cnt {j : Nat} : ∀ (l : List Ent) (q : Nat), (∀ (i : Nat) (f : Ent), i < q → l[i]? = some f → f.io.op.kind = 3 → j ∉ f.ps) → (l.take q).countP (fun e => e.io.op.kind == 3) ≤ lateOf j l
  | [], q, _ => by simp
  | x :: l, q, h => by
    cases q with
    | zero => simp
    | succ q =>
      have ih := lateOf_cnt l q fun i f hi hf hk => h (i + 1) f (by omega) (by simpa using hf) hk
      rw [List.take_succ_cons, List.countP_cons]
      unfold lateOf
      by_cases hk : x.io.op.kind = 3
      · have hw : x.isW = true := by unfold Ent.isW; rw [hk]; rfl
        have hn := h 0 x (by omega) (by simp) hk
        have hc : x.ps.contains j = false := by simpa using hn
        simp only [hw, hc, if_true, if_false, hk, beq_self_eq_true, Bool.false_eq_true]
        omega
      · have hw : x.isW = false := by
          unfold Ent.isW
          cases hb : Nat.beq x.io.op.kind 3 with
          | false => rfl
          | true => rw [Nat.beq_eq] at hb; exact absurd hb hk
        have hb : (x.io.op.kind == 3) = false := by simpa using hk
        simp only [hw, hb, if_false, Bool.false_eq_true, Nat.add_zero]
        exact ih

theorem lateE_get : ∀ (l : List Ent) (p : Nat), (lateE l)[p]? = (l[p]?).map fun e => { e.io with late := if Nat.beq e.io.op.kind 1 then lateOf e.j (l.drop (p + 1)) else 0 }
  | [], p => by simp [lateE]
  | x :: l, p => by
    cases p with
    | zero => simp [lateE]
    | succ p => have := lateE_get l p; simpa [lateE] using this
theorem lateE_length (l : List Ent) : (lateE l).length = l.length := by
  induction l with
  | nil => rfl
  | cons x l ih => simp [lateE, ih]
theorem lateE_drop : ∀ (l : List Ent) (p : Nat), (lateE l).drop p = lateE (l.drop p)
  | [], p => by simp [lateE]
  | x :: l, p => by
    cases p with
    | zero => simp
    | succ p => have := lateE_drop l p; simpa [lateE] using this
theorem cnt_lateE : ∀ (l : List Ent) (q : Nat), cnt (lateE l) q = (l.take q).countP (fun e => e.io.op.kind == 3)
  | [], q => by simp [lateE, cnt]
  | x :: l, q => by
    cases q with
    | zero => simp [cnt]
    | succ q =>
      rw [show lateE (x :: l) = { x.io with late := if Nat.beq x.io.op.kind 1 then lateOf x.j l else 0 } :: lateE l from rfl, cnt_cons, cnt_lateE l q, List.take_succ_cons, List.countP_cons]
      by_cases hk : x.io.op.kind = 3 <;> simp [hk]
end Go.Ab
