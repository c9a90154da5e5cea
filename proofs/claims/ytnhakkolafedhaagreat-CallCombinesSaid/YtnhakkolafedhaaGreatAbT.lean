/- A region that draws its order: what its run in the turned order tells, place by place. -/
import Derived.Test.YtnhakkolafedhaaGreatAbS
set_option linter.unusedVariables false
set_option linter.unusedSimpArgs false
namespace Go.Ab

def RdOk (S : Sy) (E : Env) (op : IOp) (t : T) (v : V) (h : H) : Prop := ∀ H', HLe h H' → ∀ k, exec S E op t H' k = k v H'
theorem HLe.refl (h : H) : HLe h h := fun _ _ e => e
theorem HLe.trans {a b c : H} (x : HLe a b) (y : HLe b c) : HLe a c := fun p o e => y p o (x p o e)
theorem RdOk.mono {S : Sy} {E : Env} {op : IOp} {t : T} {v : V} {h h' : H} (x : RdOk S E op t v h) (hle : HLe h h') : RdOk S E op t v h' := fun H' e k => x H' (hle.trans e) k
theorem Pos.nat_eq (p : Pos) : p.nat = p.toNat := rfl
theorem Pos.nat_inj {p q : Pos} (h : Nat.beq p.nat q.nat = true) : p = q := by
  rw [Nat.beq_eq, Pos.nat_eq, Pos.nat_eq] at h; exact Pos.toNat_inj h
theorem andB_iff {a b : Bool} : andB a b = true ↔ a = true ∧ b = true := by cases a <;> simp [andB]
theorem vsame1_eq {v w : V} (h : vsame1 v w = true) : v = w := by
  unfold vsame1 at h
  split at h
  · rw [beqB_eq] at h; simpa using h
  · rw [andB_iff, kbeq_iff, ieq_eq] at h; obtain ⟨rfl, h⟩ := h; simp at h; rw [h]
  · rw [andB_iff, kbeq_iff, Nat.beq_eq] at h; obtain ⟨rfl, rfl⟩ := h; rfl
  · rfl
  · rfl
  · rfl
  · rfl
  · rw [andB_iff] at h; obtain ⟨h1, h2⟩ := h; rw [Nat.beq_eq] at h2; subst h2; rw [Pos.nat_inj h1]
  · rw [Pos.nat_inj h]
  · rw [andB_iff, andB_iff, andB_iff] at h; obtain ⟨h1, h2, h3, h4⟩ := h; rw [Nat.beq_eq] at h2 h3 h4; subst h2 h3 h4; rw [Pos.nat_inj h1]
  · rw [andB_iff, andB_iff, andB_iff, andB_iff] at h; obtain ⟨h0, h1, h2, h3, h4⟩ := h; rw [Nat.beq_eq] at h0 h2 h3 h4; subst h0 h2 h3 h4; rw [Pos.nat_inj h1]
  · rw [Nat.beq_eq] at h; rw [h]
  · split at h
    · rw [andB_iff, andB_iff] at h; obtain ⟨h0, h1, h2⟩ := h; rw [Nat.beq_eq] at h0 h2; subst h0 h2; rw [Pos.nat_inj h1]
    · cases h
  · cases h
theorem vsameL_eq {vs ws : List V} (h : vsameL vs ws = true) : vs = ws := by
  induction vs generalizing ws with
  | nil => cases ws; rfl; cases h
  | cons v vs ih =>
    cases ws with
    | nil => cases h
    | cons w ws => obtain ⟨h1, h2⟩ := andB_iff.1 (show andB (vsame1 v w) (vsameL vs ws) = true from h); rw [vsame1_eq h1, ih h2]
theorem vsame_eq {v w : V} (h : vsame v w = true) : v = w := by
  unfold vsame at h
  split at h
  · rw [vsameL_eq h]
  · exact vsame1_eq h
theorem H.fresh_iff {h : H} (e : h.fresh = true) : h.get h.nx = none := by
  cases h with
  | mk nx m =>
    show m.get nx = none
    cases hm : m.get nx with
    | none => rfl
    | some o => simp [H.fresh, Tr.getO_eq, hm] at e
theorem mkOk_iff {op : IOp} {h : H} (e : mkOk op h = true) (hk : op.kind = 2) : h.get h.nx = none := by
  unfold mkOk at e; rw [hk] at e; exact H.fresh_iff e

theorem wantK_two (g : Option (Pos × Bool)) (t : T) : (∀ a b, wantK g t a b = a) ∨ ∀ a b, wantK g t a b = b := by
  cases g with
  | none => exact .inr fun _ _ => rfl
  | some p =>
    obtain ⟨d, w⟩ := p
    have ab : ∀ no yes, wantK (some (d, w)) t no yes = V.on ((Opd.t d).ev t) no (fun b => Bool.rec (motive := fun _ => R) no yes (beqB b w)) (fun _ _ => no) (fun _ _ => no) (fun _ _ _ _ _ => no) (fun _ => no) (fun _ _ _ => no) (fun _ => no) (fun _ => no) := fun _ _ => rfl
    cases hv : (Opd.t d).ev t with
    | bool b =>
      by_cases e : b = w
      · right; intro x y; rw [ab, hv]; subst e; cases b <;> rfl
      · left; intro x y; rw [ab, hv]; cases b <;> cases w <;> first | rfl | exact absurd rfl e
    | _ => left; intro x y; rw [ab, hv]; rfl

theorem kind_le (op : IOp) : op.kind = 0 ∨ op.kind = 1 ∨ op.kind = 2 ∨ op.kind = 3 := by cases op <;> simp [IOp.kind]

/-- abstract memories that have no block from their next one on: not needed; a new block harms no older one that differs -/
theorem kind2_heap {S : Sy} {E : Env} {op : IOp} (hk : op.kind = 2) {t : T} {h : H} {k : K} {r : V × H} (hx : exec S E op t h k = some r) : ∃ v ob, k v (h.push ob) = some r := by
  cases op with
  | new zs => exact ⟨_, _, (H.alloc_eq h (mkO zs) (fun r h' => k (.ptr r 0) h')).symm.trans hx⟩
  | box x => obtain ⟨_, hx⟩ := ifK_some.1 hx; exact ⟨_, _, (H.alloc_eq h _ (fun r h' => k (.ptr r 0) h')).symm.trans hx⟩
  | mkmap => exact ⟨_, _, (H.alloc_eq h (.mp []) (fun r h' => k (.map r) h')).symm.trans hx⟩
  | bslice n zs ps =>
    rcases Cp.fillK ps t zs with hn | ⟨l, hl⟩
    · rw [show exec S E (.bslice n zs ps) t h k = none from hn _] at hx; cases hx
    · rw [show exec S E (.bslice n zs ps) t h k = _ from hl _] at hx
      exact ⟨_, _, (H.alloc_eq h (mkO l) (fun r h' => k (.sl r 0 n n none) h')).symm.trans hx⟩
  | mkslice e z b l c =>
    obtain ⟨_, n, _, hx⟩ := V.nat_some (v := l.ev t) hx
    obtain ⟨_, m, _, hx⟩ := V.nat_some hx
    obtain ⟨_, hx⟩ := ifK_some.1 hx
    obtain ⟨_, hx⟩ := ifK_some.1 hx
    obtain ⟨_, hx⟩ := ifK_some.1 hx
    exact ⟨_, _, (H.alloc_eq h _ (fun r h' => k (.sl r 0 n m none) h')).symm.trans hx⟩
  | _ => cases hk

/-- so many writers stand among the first ones -/
noncomputable def cnt (L : List IOpr) (q : Nat) : Nat := (L.take q).countP fun o => o.op.kind == 3
theorem cnt_zero (L : List IOpr) : cnt L 0 = 0 := by simp [cnt]
theorem cnt_cons (o : IOpr) (L : List IOpr) (q : Nat) : cnt (o :: L) (q + 1) = cnt L q + if o.op.kind = 3 then 1 else 0 := by
  simp [cnt, List.take_succ_cons, List.countP_cons]

/-- blocks stand below the next one -/
def Below (h : H) : Prop := ∀ b, h.nx.toNat ≤ b.toNat → h.get b = none

structure Can (S : Sy) (E : Env) (L : List IOpr) (pend : List Pend) (t : T) (h : H) (k : T → H → R) (r : V × H) (ts : Nat → T) (hs : Nat → H) (vs : Nat → V) (wt : Nat → Bool) : Prop where
  t0 : ts 0 = t
  h0 : hs 0 = h
  fin : k (ts L.length) (hs L.length) = some r
  tst : ∀ p o, L[p]? = some o → ts (p + 1) = tset o.dst (vs p) (ts p)
  no : ∀ p o, L[p]? = some o → wt p = false → vs p = .tup [] ∧ hs (p + 1) = hs p ∧ ∀ a b, wantK o.guard (ts p) a b = a
  yes : ∀ p o, L[p]? = some o → wt p = true → (∀ a b, wantK o.guard (ts p) a b = b) ∧ ∀ k', exec S E o.op (ts p) (hs p) k' = k' (vs p) (hs (p + 1))
  k01 : ∀ p o, L[p]? = some o → wt p = true → o.op.kind = 0 ∨ o.op.kind = 1 → hs (p + 1) = hs p
  k2 : ∀ p o, L[p]? = some o → wt p = true → o.op.kind = 2 → ∃ ob, hs (p + 1) = (hs p).push ob ∧ (hs p).get (hs p).nx = none
  rd : ∀ p o q, L[p]? = some o → wt p = true → o.op.kind = 1 → p + 1 + q ≤ L.length → cnt (L.drop (p + 1)) q ≤ o.late → RdOk S E o.op (ts p) (vs p) (hs (p + 1 + q))
  pf : ∀ e ∈ pend, ∀ q, q ≤ L.length → 1 ≤ cnt L q → cnt L q ≤ e.n → RdOk S E e.op e.t e.v (hs q)

def ncons {α : Type} (x : α) (f : Nat → α) : Nat → α
  | 0 => x
  | n + 1 => f n

/-- two next ones: memories that follow each other without a writer between them -/
theorem push_le {h : H} (hb : h.get h.nx = none) (ob : O) : HLe h (h.push ob) := by
  intro b o e
  rw [H.get_push_ne]
  · exact e
  · rintro rfl; rw [hb] at e; cases e

section
variable {S : Sy} {call : Nat → List V → H → K → R} {round : Pos → List V → H → K → R} {loop : IC → T → H → (T → H → R) → (Option Nat → T → H → R) → R}

theorem rechk_some (h : H) (l : List Pend) {K' : List Pend → R} {r : V × H} (hl : ∀ e ∈ l, e.op.kind = 1) (hx : rechk S (.mk call round loop) h l K' = some r) :
    ∃ l', K' l' = some r ∧ (∀ e ∈ l', e.op.kind = 1) ∧ ∀ e ∈ l, 1 ≤ e.n → RdOk S (.mk call round loop) e.op e.t e.v h ∧ (⟨e.n - 1, e.op, e.t, e.v⟩ : Pend) ∈ l' := by
  induction l generalizing K' with
  | nil => exact ⟨[], hx, by simp, by simp⟩
  | cons p l ih =>
    obtain ⟨n, op, t, v⟩ := p
    have hl' : ∀ e ∈ l, e.op.kind = 1 := fun e he => hl e (by simp [he])
    cases n with
    | zero =>
      obtain ⟨l', h1, h2, h3⟩ := ih hl' (K' := K') hx
      refine ⟨l', h1, h2, fun e he hn => ?_⟩
      rcases List.mem_cons.1 he with rfl | he
      · simp at hn
      · exact h3 e he hn
    | succ n =>
      have hx : exec S (.mk call round loop) op t h (fun v' _ => ifK (vsame v v') (rechk S (.mk call round loop) h l fun l' => K' (⟨n, op, t, v⟩ :: l'))) = some r := hx
      have hk : op.kind = 1 := hl ⟨n + 1, op, t, v⟩ (by simp)
      obtain ⟨v', hx, hrd⟩ := kind1_spec hk hx
      obtain ⟨hsame, hx2⟩ := ifK_some.1 hx
      have hv : v = v' := vsame_eq hsame
      subst hv
      obtain ⟨l', h1, h2, h3⟩ := ih hl' (K' := fun l' => K' (⟨n, op, t, v⟩ :: l')) hx2
      refine ⟨_, h1, fun e he => ?_, fun e he hn => ?_⟩
      · rcases List.mem_cons.1 he with rfl | he
        · exact hk
        · exact h2 e he
      · rcases List.mem_cons.1 he with rfl | he
        · exact ⟨hrd, by simp⟩
        · obtain ⟨a, b⟩ := h3 e he hn
          exact ⟨a, List.mem_cons_of_mem _ b⟩

/-- one operation put ahead -/
theorem Can.cons (hE : EnvNat call round loop) {o : IOpr} {L : List IOpr} {pend pend1 : List Pend} {t t1 : T} {h h1 : H} {k : T → H → R} {r : V × H} {ts : Nat → T} {hs : Nat → H} {vs : Nat → V} {wt : Nat → Bool} {v : V} {w : Bool}
    (c : Can S (.mk call round loop) L pend1 t1 h1 k r ts hs vs wt)
    (ht : t1 = tset o.dst v t) (hno : w = false → v = .tup [] ∧ h1 = h ∧ ∀ a b, wantK o.guard t a b = a)
    (hyes : w = true → (∀ a b, wantK o.guard t a b = b) ∧ ∀ k', exec S (.mk call round loop) o.op t h k' = k' v h1) (h01 : w = true → o.op.kind = 0 ∨ o.op.kind = 1 → h1 = h)
    (h2 : w = true → o.op.kind = 2 → ∃ ob, h1 = h.push ob ∧ h.get h.nx = none)
    (hr : w = true → o.op.kind = 1 → RdOk S (.mk call round loop) o.op t v h1 ∧ (1 ≤ o.late → (⟨o.late, o.op, t, v⟩ : Pend) ∈ pend1))
    (hp3 : o.op.kind = 3 → ∀ e ∈ pend, 1 ≤ e.n → RdOk S (.mk call round loop) e.op e.t e.v h1 ∧ (⟨e.n - 1, e.op, e.t, e.v⟩ : Pend) ∈ pend1)
    (hp : o.op.kind ≠ 3 → ∀ e ∈ pend, e ∈ pend1) :
    Can S (.mk call round loop) (o :: L) pend t h k r (ncons t ts) (ncons h hs) (ncons v vs) (ncons w wt) := by
  have hle : ∀ q, q ≤ L.length → cnt L q = 0 → HLe h1 (hs q) := by
    intro q
    induction q with
    | zero => intro _ _; rw [c.h0]; exact HLe.refl _
    | succ q ih =>
      intro hq hc
      have hlt : q < L.length := by omega
      have ho : L[q]? = some L[q] := List.getElem?_eq_getElem hlt
      have hsplit : cnt L (q + 1) = cnt L q + if L[q].op.kind = 3 then 1 else 0 := by
        unfold cnt
        rw [List.take_add_one, ho, List.countP_append]
        congr 1
        by_cases e : L[q].op.kind = 3 <;> simp [e]
      have h3 : L[q].op.kind ≠ 3 := fun e => by rw [hsplit, if_pos e] at hc; omega
      have := ih (by omega) (by rw [hsplit] at hc; omega)
      refine this.trans ?_
      cases hw : wt q with
      | false => rw [(c.no q _ ho hw).2.1]; exact HLe.refl _
      | true =>
        rcases kind_le L[q].op with hk | hk | hk | hk
        · rw [c.k01 q _ ho hw (.inl hk)]; exact HLe.refl _
        · rw [c.k01 q _ ho hw (.inr hk)]; exact HLe.refl _
        · obtain ⟨ob, e, hf⟩ := c.k2 q _ ho hw hk; rw [e]; exact push_le hf ob
        · exact absurd hk h3
  refine ⟨rfl, rfl, by simpa [ncons] using c.fin, fun p oo hoo => ?_, fun p oo hoo => ?_, fun p oo hoo => ?_, fun p oo hoo => ?_, fun p oo hoo => ?_, fun p oo q hoo => ?_, fun e he q => ?_⟩
  · cases p with
    | zero => simp at hoo; subst hoo; show ts 0 = _; rw [c.t0, ht]; rfl
    | succ p => exact c.tst p oo (by simpa using hoo)
  · cases p with
    | zero => simp at hoo; subst hoo; intro hw; obtain ⟨a, b, d⟩ := hno hw; exact ⟨a, by show hs 0 = h; rw [c.h0, b], d⟩
    | succ p => exact c.no p oo (by simpa using hoo)
  · cases p with
    | zero => simp at hoo; subst hoo; intro hw; obtain ⟨a, b⟩ := hyes hw; exact ⟨a, fun k' => by show exec S _ _ t h k' = k' v (hs 0); rw [c.h0, b]⟩
    | succ p => exact c.yes p oo (by simpa using hoo)
  · cases p with
    | zero => simp at hoo; subst hoo; intro hw hk; show hs 0 = h; rw [c.h0, h01 hw hk]
    | succ p => exact c.k01 p oo (by simpa using hoo)
  · cases p with
    | zero => simp at hoo; subst hoo; intro hw hk; obtain ⟨ob, a, b⟩ := h2 hw hk; exact ⟨ob, by show hs 0 = h.push ob; rw [c.h0, a], b⟩
    | succ p => exact c.k2 p oo (by simpa using hoo)
  · cases p with
    | zero =>
      simp at hoo; subst hoo
      intro hw hk hq hc
      obtain ⟨a, b⟩ := hr hw hk
      simp only [List.length_cons] at hq
      have hc : cnt L q ≤ o.late := by simpa using hc
      show RdOk S _ o.op t v (ncons h hs (0 + 1 + q))
      rw [show 0 + 1 + q = q + 1 by omega]
      show RdOk S _ o.op t v (hs q)
      by_cases hz : cnt L q = 0
      · exact a.mono (hle q (by omega) hz)
      · exact c.pf _ (b (by omega)) q (by omega) (by omega) hc
    | succ p =>
      intro hw hk hq hc
      simp only [List.length_cons] at hq
      have := c.rd p oo q (by simpa using hoo) hw hk (by omega) (by simpa using hc)
      show RdOk S _ oo.op (ts p) (vs p) (ncons h hs (p + 1 + 1 + q))
      rw [show p + 1 + 1 + q = (p + 1 + q) + 1 by omega]
      exact this
  · cases q with
    | zero => intro _ h1; rw [cnt_zero] at h1; omega
    | succ q =>
      intro hq hc1 hc2
      simp only [List.length_cons] at hq
      rw [cnt_cons] at hc1 hc2
      show RdOk S _ e.op e.t e.v (hs q)
      by_cases h3 : o.op.kind = 3
      · rw [if_pos h3] at hc1 hc2
        obtain ⟨a, b⟩ := hp3 h3 e he (by omega)
        by_cases hz : cnt L q = 0
        · exact a.mono (hle q (by omega) hz)
        · exact c.pf _ b q (by omega) (by omega) (by show cnt L q ≤ e.n - 1; omega)
      · rw [if_neg h3] at hc1 hc2
        exact c.pf e (hp h3 e he) q (by omega) (by omega) (by omega)

theorem pendAdd_eq (n : Nat) (op : IOp) (t : T) (v : V) (l : List Pend) : pendAdd n op t v l = if n = 0 then l else ⟨n, op, t, v⟩ :: l := by cases n <;> rfl

theorem opersD_can (hE : EnvNat call round loop) (L : List IOpr) : ∀ (pend : List Pend) (t : T) (h : H) (k : T → H → R) (r : V × H), (∀ e ∈ pend, e.op.kind = 1) → (∀ o ∈ L, o.late ≠ 0 → o.op.kind = 1) →
    opersD S L (.mk call round loop) pend t h k = some r → ∃ ts hs vs wt, Can S (.mk call round loop) L pend t h k r ts hs vs wt := by
  induction L with
  | nil =>
    intro pend t h k r _ _ hx
    exact ⟨fun _ => t, fun _ => h, fun _ => .tup [], fun _ => false, rfl, rfl, hx, by simp, by simp, by simp, by simp, by simp, by simp, fun e _ q hq h1 => by simp [cnt] at h1⟩
  | cons o L ih =>
    intro pend t h k r hpk hlk hx
    obtain ⟨d, g, late, op⟩ := o
    have hlk' : ∀ o ∈ L, o.late ≠ 0 → o.op.kind = 1 := fun o ho => hlk o (by simp [ho])
    rcases wantK_two g t with hw | hw
    · have hx : isK3 op (rechk S (.mk call round loop) h pend fun pend' => opersD S L (.mk call round loop) pend' (tset d (.tup []) t) h k) (opersD S L (.mk call round loop) pend (tset d (.tup []) t) h k) = some r := (hw _ _).symm.trans hx
      rw [isK3_eq hE] at hx
      by_cases h3 : op.kind = 3
      · rw [if_pos h3] at hx
        obtain ⟨l', h1, h2, h4⟩ := rechk_some h pend hpk hx
        obtain ⟨ts, hs, vs, wt, c⟩ := ih l' _ _ _ _ h2 hlk' h1
        exact ⟨_, _, _, _, Can.cons hE (o := ⟨d, g, late, op⟩) (v := .tup []) (w := false) c rfl (fun _ => ⟨rfl, rfl, hw⟩) (fun h => by cases h) (fun h => by cases h) (fun h => by cases h) (fun h => by cases h) (fun _ => h4) (fun hn => absurd h3 hn)⟩
      · rw [if_neg h3] at hx
        obtain ⟨ts, hs, vs, wt, c⟩ := ih pend _ _ _ _ hpk hlk' hx
        exact ⟨_, _, _, _, Can.cons hE (o := ⟨d, g, late, op⟩) (v := .tup []) (w := false) c rfl (fun _ => ⟨rfl, rfl, hw⟩) (fun h => by cases h) (fun h => by cases h) (fun h => by cases h) (fun h => by cases h) (fun hn => absurd hn h3) (fun _ e he => he)⟩
    · have hx : exec S (.mk call round loop) op t h (fun v h' => isK3 op (rechk S (.mk call round loop) h' pend fun pend' => opersD S L (.mk call round loop) pend' (tset d v t) h' k) (ifK (mkOk op h) (opersD S L (.mk call round loop) (pendAdd late op t v pend) (tset d v t) h' k))) = some r := (hw _ _).symm.trans hx
      rcases exec_nat hE (S := S) op t h with hn | ⟨v, h', hn⟩
      · rw [hn] at hx; cases hx
      · have hx1 := hx
        rw [hn, isK3_eq hE] at hx
        by_cases h3 : op.kind = 3
        · rw [if_pos h3] at hx
          obtain ⟨l', h1, h2, h4⟩ := rechk_some h' pend hpk hx
          obtain ⟨ts, hs, vs, wt, c⟩ := ih l' _ _ _ _ h2 hlk' h1
          refine ⟨_, _, _, _, Can.cons hE (o := ⟨d, g, late, op⟩) (v := v) (w := true) c rfl (fun h => by cases h) (fun _ => ⟨hw, hn⟩) (fun _ hk => ?_) (fun _ hk => ?_) (fun _ hk => ?_) (fun _ => h4) (fun hn => absurd h3 hn)⟩
          · simp only at hk; omega
          · simp only at hk; omega
          · simp only at hk; omega
        · rw [if_neg h3] at hx
          obtain ⟨hmk, hx⟩ := ifK_some.1 hx
          have hpk' : ∀ e ∈ pendAdd late op t v pend, e.op.kind = 1 := by
            rw [pendAdd_eq]
            split
            · exact hpk
            · rename_i hl
              intro e he
              rcases List.mem_cons.1 he with rfl | he
              · exact hlk ⟨d, g, late, op⟩ (by simp) hl
              · exact hpk e he
          obtain ⟨ts, hs, vs, wt, c⟩ := ih _ _ _ _ _ hpk' hlk' hx
          have hpair := hn (fun v h => some (v, h))
          refine ⟨_, _, _, _, Can.cons hE (o := ⟨d, g, late, op⟩) (v := v) (w := true) c rfl (fun h => by cases h) (fun _ => ⟨hw, hn⟩) (fun _ hk => ?_) (fun _ hk => ?_) (fun _ hk => ?_) (fun hk => absurd hk h3) (fun _ e he => ?_)⟩
          · rcases hk with hk | hk
            · obtain ⟨v', e1, _⟩ := kind0_spec hk hpair; simp at e1; exact e1.2.symm
            · obtain ⟨v', e1, _⟩ := kind1_spec hk hpair; simp at e1; exact e1.2.symm
          · obtain ⟨v', ob, e1⟩ := kind2_heap hk hpair
            simp at e1
            exact ⟨ob, e1.2.symm, mkOk_iff hmk hk⟩
          · obtain ⟨v', e1, e2⟩ := kind1_spec hk hpair
            simp at e1
            obtain ⟨rfl, rfl⟩ := e1
            refine ⟨e2, fun hl => ?_⟩
            rw [pendAdd_eq, if_neg (by simp only at hl; omega)]; simp
          · rw [pendAdd_eq]
            split
            · exact he
            · exact List.mem_cons_of_mem _ he
end
end Go.Ab
