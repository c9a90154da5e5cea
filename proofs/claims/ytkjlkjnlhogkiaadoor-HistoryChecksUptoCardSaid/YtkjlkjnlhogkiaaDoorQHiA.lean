/- The calls of a history: the plain law, with no program in sight. -/
set_option linter.unusedSimpArgs false
set_option linter.unusedVariables false
namespace Go.Hist
structure Ca where
  (c0 c1 c2 c3 c4 c5 c6 c7 : Int)
  deriving DecidableEq
structure Re where
  (r0 r1 : Int)
  deriving DecidableEq
structure Ev where
  fin : Bool
  core : Int
  call : Ca
  res : Re
structure Hop where
  core : Int
  call : Ca
  beg : Int
  fin : Int
  res : Re
/-- the last one of a core that has not ended -/
def oi (c : Int) : List Hop → Int → Int → Int
  | [], _, a => a
  | o :: L, k, a => oi c L (k + 1) (if o.core = c ∧ o.fin < 0 then k else a)
def openIdx (L : List Hop) (c : Int) : Int := oi c L 0 (-1)
def Op0 : Hop := ⟨0, ⟨0, 0, 0, 0, 0, 0, 0, 0⟩, 0, 0, ⟨0, 0⟩⟩
def Re0 : Re := ⟨0, 0⟩
def hstep (L : List Hop) (i : Int) (x : Ev) : Option (List Hop) :=
  let j := openIdx L x.core
  if x.fin then
    if j < 0 ∨ (L.getD j.toNat Op0).call ≠ x.call then none
    else some (L.set j.toNat { L.getD j.toNat Op0 with fin := i, res := x.res })
  else if 0 ≤ j ∨ x.res ≠ Re0 then none
  else some (L ++ [⟨x.core, x.call, i, -1, Re0⟩])
def hrun : List Hop → Int → List Ev → Option (List Hop)
  | L, _, [] => some L
  | L, i, x :: l => match hstep L i x with
    | none => none
    | some L' => hrun L' (i + 1) l
def U (L : List Hop) : Prop := ∀ (i j : Nat) (a b : Hop), L[i]? = some a → L[j]? = some b → a.fin < 0 → b.fin < 0 → a.core = b.core → i = j

theorem oi_spec (c : Int) : ∀ (L : List Hop) (k a : Int), (oi c L k a = a ∧ ∀ (j : Nat) (o : Hop), L[j]? = some o → ¬(o.core = c ∧ o.fin < 0)) ∨ ∃ (j : Nat) (o : Hop), oi c L k a = k + j ∧ L[j]? = some o ∧ o.core = c ∧ o.fin < 0
  | [], k, a => .inl ⟨rfl, fun j o h => by simp at h⟩
  | p :: L, k, a => by
    have ih := oi_spec c L (k + 1) (if p.core = c ∧ p.fin < 0 then k else a)
    rcases ih with ⟨h1, h2⟩ | ⟨j, o, h1, h2, h3⟩
    · by_cases hp : p.core = c ∧ p.fin < 0
      · rw [if_pos hp] at h1
        exact .inr ⟨0, p, by show oi c L (k + 1) _ = _; rw [if_pos hp, h1]; simp, rfl, hp⟩
      · rw [if_neg hp] at h1
        refine .inl ⟨by show oi c L (k + 1) _ = _; rw [if_neg hp, h1], fun j o h => ?_⟩
        cases j with
        | zero => simp at h; subst h; exact hp
        | succ j => exact h2 j o (by simpa using h)
    · exact .inr ⟨j + 1, o, by show oi c L (k + 1) _ = _; rw [h1]; omega, by simpa using h2, h3⟩
theorem openIdx_spec (L : List Hop) (c : Int) : (openIdx L c = -1 ∧ ∀ (j : Nat) (o : Hop), L[j]? = some o → ¬(o.core = c ∧ o.fin < 0)) ∨ ∃ (j : Nat) (o : Hop), openIdx L c = j ∧ L[j]? = some o ∧ o.core = c ∧ o.fin < 0 := by
  rcases oi_spec c L 0 (-1) with h | ⟨j, o, h, h2⟩
  · exact .inl h
  · exact .inr ⟨j, o, by show oi c L 0 (-1) = _; rw [h]; omega, h2⟩
theorem openIdx_lt (L : List Hop) (c : Int) : -1 ≤ openIdx L c ∧ openIdx L c < L.length := by
  rcases openIdx_spec L c with ⟨h, _⟩ | ⟨j, o, h, h2, _⟩
  · omega
  · have := (List.getElem?_eq_some_iff.1 h2).1; omega
theorem openIdx_no {L : List Hop} {c : Int} (h : ∀ (j : Nat) (o : Hop), L[j]? = some o → ¬(o.core = c ∧ o.fin < 0)) : openIdx L c = -1 := by
  rcases openIdx_spec L c with ⟨h1, _⟩ | ⟨j, o, _, h2, h3⟩
  · exact h1
  · exact absurd h3 (h j o h2)
theorem openIdx_at {L : List Hop} {c : Int} (u : U L) {j : Nat} {o : Hop} (h : L[j]? = some o) (hc : o.core = c) (hf : o.fin < 0) : openIdx L c = j := by
  rcases openIdx_spec L c with ⟨_, h2⟩ | ⟨i, p, h1, h2, h3, h4⟩
  · exact absurd ⟨hc, hf⟩ (h2 j o h)
  · rw [h1, u i j p o h2 h h4 hf (by rw [h3, hc])]
theorem openIdx_push {L : List Hop} {o : Hop} (u : U (L ++ [o])) (hf : o.fin < 0) (c : Int) : openIdx (L ++ [o]) c = if c = o.core then (L.length : Int) else openIdx L c := by
  by_cases h : c = o.core
  · rw [if_pos h]
    exact openIdx_at u (j := L.length) (o := o) (by simp) h.symm hf
  · rw [if_neg h]
    rcases openIdx_spec L c with ⟨h1, h2⟩ | ⟨i, p, h1, h2, h3, h4⟩
    · rw [h1]
      refine openIdx_no fun j q hq => ?_
      rcases Nat.lt_or_ge j L.length with hj | hj
      · exact h2 j q (by rwa [List.getElem?_append_left hj] at hq)
      · rw [List.getElem?_append_right hj] at hq
        have : q = o := by
          cases hk : j - L.length with
          | zero => rw [hk] at hq; simpa using hq.symm
          | succ k => rw [hk] at hq; simp at hq
        subst this
        exact fun hh => h hh.1.symm
    · rw [h1]
      have hi := (List.getElem?_eq_some_iff.1 h2).1
      exact openIdx_at u (j := i) (o := p) (by rw [List.getElem?_append_left hi]; exact h2) h3 h4
theorem U_push {L : List Hop} {o : Hop} (u : U L) (h : openIdx L o.core < 0) : U (L ++ [o]) := by
  have no : ∀ (j : Nat) (p : Hop), L[j]? = some p → ¬(p.core = o.core ∧ p.fin < 0) := by
    rcases openIdx_spec L o.core with ⟨_, h2⟩ | ⟨i, p, h1, _⟩
    · exact h2
    · omega
  have cs : ∀ (j : Nat) (p : Hop), (L ++ [o])[j]? = some p → (j < L.length ∧ L[j]? = some p) ∨ (j = L.length ∧ p = o) := fun j p hp => by
    rcases Nat.lt_or_ge j L.length with hj | hj
    · rw [List.getElem?_append_left hj] at hp; exact .inl ⟨hj, hp⟩
    · rw [List.getElem?_append_right hj] at hp
      cases hk : j - L.length with
      | zero => rw [hk] at hp; exact .inr ⟨by omega, by simpa using hp.symm⟩
      | succ k => rw [hk] at hp; simp at hp
  intro i j a b ha hb fa fb hc
  rcases cs i a ha with ⟨h1, h2⟩ | ⟨h1, h2⟩
  · rcases cs j b hb with ⟨h3, h4⟩ | ⟨h3, h4⟩
    · exact u i j a b h2 h4 fa fb hc
    · subst h4; exact absurd ⟨hc, fa⟩ (no i a h2)
  · rcases cs j b hb with ⟨h3, h4⟩ | ⟨h3, h4⟩
    · subst h2; exact absurd ⟨hc.symm, fb⟩ (no j b h4)
    · omega
theorem set_cases {L : List Hop} {j : Nat} {o p : Hop} {k : Nat} (h : (L.set j o)[k]? = some p) : (k = j ∧ p = o) ∨ (k ≠ j ∧ L[k]? = some p) := by
  by_cases hk : k = j
  · subst hk
    have hl := (List.getElem?_eq_some_iff.1 h).1
    simp at hl
    rw [List.getElem?_set_self hl] at h
    exact .inl ⟨rfl, by simpa using h.symm⟩
  · rw [List.getElem?_set_ne (fun e => hk e.symm)] at h
    exact .inr ⟨hk, h⟩
theorem U_set {L : List Hop} {j : Nat} {o : Hop} (u : U L) (hf : 0 ≤ o.fin) : U (L.set j o) := by
  intro i k a b ha hb fa fb hc
  rcases set_cases ha with ⟨_, h⟩ | ⟨_, h⟩
  · subst h; omega
  · rcases set_cases hb with ⟨_, h'⟩ | ⟨_, h'⟩
    · subst h'; omega
    · exact u i k a b h h' fa fb hc
theorem openIdx_set {L : List Hop} {j : Nat} {o p : Hop} (u : U L) (hp : L[j]? = some p) (hpf : p.fin < 0) (hf : 0 ≤ o.fin) (c : Int) : openIdx (L.set j o) c = if c = p.core then -1 else openIdx L c := by
  by_cases h : c = p.core
  · rw [if_pos h]
    refine openIdx_no fun k q hq hh => ?_
    rcases set_cases hq with ⟨_, h'⟩ | ⟨h1, h'⟩
    · subst h'; omega
    · exact h1 (u k j q p h' hp hh.2 hpf (by rw [hh.1, h]))
  · rw [if_neg h]
    rcases openIdx_spec L c with ⟨h1, h2⟩ | ⟨i, q, h1, h2, h3, h4⟩
    · rw [h1]
      refine openIdx_no fun k q hq hh => ?_
      rcases set_cases hq with ⟨_, h'⟩ | ⟨_, h'⟩
      · subst h'; omega
      · exact h2 k q h' hh
    · rw [h1]
      have hij : i ≠ j := fun e => by subst e; rw [hp] at h2; simp at h2; subst h2; exact h h3.symm
      exact openIdx_at (U_set u hf) (j := i) (o := q) (by rw [List.getElem?_set_ne hij.symm]; exact h2) h3 h4

/-! the map -/
def mg (m : List (Int × Int)) (c : Int) : Option Int := (m.find? fun e => e.1 == c).map (·.2)
def Ag (m : List (Int × Int)) (L : List Hop) : Prop := (m.map (·.1)).Nodup ∧ ∀ c, mg m c = if 0 ≤ openIdx L c then some (openIdx L c) else none
theorem Ag_nil : Ag [] [] := ⟨by simp, fun c => by simp [mg, openIdx, oi]⟩
theorem mg_append (m : List (Int × Int)) (c x d : Int) : mg (m ++ [(c, x)]) d = (mg m d).or (if c = d then some x else none) := by
  unfold mg
  rw [List.find?_append]
  cases h : m.find? (fun e => e.1 == d) with
  | some e => simp
  | none =>
    by_cases hc : c = d
    · simp [hc]
    · simp [hc]
theorem mg_none {m : List (Int × Int)} {c : Int} (h : mg m c = none) : c ∉ m.map (·.1) := by
  unfold mg at h
  simp at h
  intro hm
  obtain ⟨e, he, rfl⟩ := List.mem_map.1 hm
  exact h e.1 e.2 he rfl
theorem Ag_push {m : List (Int × Int)} {L : List Hop} {o : Hop} (a : Ag m L) (u : U L) (hf : o.fin < 0) (h : openIdx L o.core < 0) : Ag (m ++ [(o.core, (L.length : Int))]) (L ++ [o]) := by
  have hn : mg m o.core = none := by rw [a.2, if_neg (by omega)]
  refine ⟨?_, fun c => ?_⟩
  · rw [List.map_append, List.nodup_append]
    refine ⟨a.1, by simp, fun x hx y hy => ?_⟩
    simp at hy
    subst hy
    exact fun e => by subst e; exact mg_none hn hx
  · rw [mg_append, openIdx_push (U_push u h) hf]
    by_cases hc : o.core = c
    · subst hc; rw [hn, if_pos rfl, if_pos rfl]; simp
    · have hc' : ¬ c = o.core := fun e => hc e.symm
      simp only [if_neg hc, if_neg hc', a.2]
      simp
theorem mg_erase {c : Int} : ∀ {m : List (Int × Int)}, (m.map (·.1)).Nodup → ∀ d, mg (m.eraseP fun e => e.1 == c) d = if d = c then none else mg m d
  | [], _, d => by simp [mg]
  | e :: m, hn, d => by
    simp only [List.map_cons, List.nodup_cons] at hn
    by_cases h : e.1 = c
    · subst h
      have e1 : (e :: m).eraseP (fun x => x.1 == e.1) = m := by simp
      rw [e1]
      by_cases hd : d = e.1
      · subst hd
        rw [if_pos rfl]
        unfold mg
        simp
        intro a b hab h2
        exact hn.1 (List.mem_map.2 ⟨(a, b), hab, h2⟩)
      · rw [if_neg hd]
        have : ¬ e.1 = d := fun x => hd x.symm
        simp [mg, this]
    · have e1 : (e :: m).eraseP (fun x => x.1 == c) = e :: m.eraseP (fun x => x.1 == c) := by simp [h]
      rw [e1]
      have ih := mg_erase (c := c) hn.2 d
      unfold mg at ih ⊢
      by_cases hd : e.1 = d
      · subst hd; rw [if_neg h]; simp
      · simp only [List.find?_cons]
        have hd' : (e.1 == d) = false := by simpa using hd
        rw [hd']
        exact ih
theorem nodup_erase {c : Int} {m : List (Int × Int)} (h : (m.map (·.1)).Nodup) : ((m.eraseP fun e => e.1 == c).map (·.1)).Nodup :=
  List.Nodup.sublist (List.Sublist.map _ List.eraseP_sublist) h
theorem Ag_set {m : List (Int × Int)} {L : List Hop} {o p : Hop} {j : Nat} (a : Ag m L) (u : U L) (hp : L[j]? = some p) (hpf : p.fin < 0) (hf : 0 ≤ o.fin) : Ag (m.eraseP fun e => e.1 == p.core) (L.set j o) := by
  refine ⟨nodup_erase a.1, fun c => ?_⟩
  rw [mg_erase a.1, openIdx_set u hp hpf hf, a.2]
  by_cases h : c = p.core
  · rw [if_pos h, if_pos h]; simp
  · rw [if_neg h, if_neg h]
end Go.Hist
