/- Arguments of plain data: ints, bools, structs and arrays of these: how they are read, what they are made of. -/
import Derived.Test.YtnhakkolafedhaaGreatAcC
import Derived.ChangeSame
set_option linter.unusedVariables false
set_option linter.unusedSimpArgs false
namespace Go.Ab
section
variable {H : Type} {enc : TypeId × Value → H} {P : Program}

/-- the kinds of a plain type's cells, one by one: none: a bool's -/
def kindFs (P : Program) (rec : TypeId → Option (List (Option IntKind))) : List Field → Nat → Option (List (Option IntKind))
  | [], _ => some []
  | f :: fs, off => if f.offset = off then match rec f.type with
      | some l => if P.cellsOf f.type = l.length then match kindFs P rec fs (off + l.length) with
          | some r => some (l ++ r)
          | none => none
        else none
      | none => none
    else none
def kindsT (P : Program) : Nat → TypeId → Option (List (Option IntKind))
  | 0, _ => none
  | d + 1, t => match P.underlying t with
    | some .bool => some [none]
    | some (.int k) => some [some k]
    | some (.struct fs) => match kindFs P (kindsT P d) fs.toList 0 with
      | some l => if P.cellsOf t = l.length then some l else none
      | none => none
    | some (.array n e) => match kindsT P d e with
      | some l => if P.cellsOf e = l.length ∧ P.cellsOf t = n * l.length then some (List.replicate n l).flatten else none
      | none => none
    | _ => none

def okCell : Option IntKind → Value → Prop
  | none, v => ∃ b, v = .bool b
  | some k, v => ∃ n, v = .int k n ∧ (Lit.int k n).wf = true
def Cl : List (Option IntKind) → List Value → Prop
  | [], cs => cs = []
  | k :: ks, cs => ∃ c cs', cs = c :: cs' ∧ okCell k c ∧ Cl ks cs'
theorem Cl.append : ∀ {a b : List (Option IntKind)} {x y : List Value}, Cl a x → Cl b y → Cl (a ++ b) (x ++ y)
  | [], b, x, y, h, h' => by rw [show x = [] from h]; exact h'
  | k :: a, b, x, y, ⟨c, cs, e, h1, h2⟩, h' => by subst e; exact ⟨c, cs ++ y, rfl, h1, Cl.append h2 h'⟩
theorem Cl.length : ∀ {a : List (Option IntKind)} {x : List Value}, Cl a x → x.length = a.length
  | [], x, h => by rw [show x = [] from h]; rfl
  | k :: a, x, ⟨c, cs, e, h1, h2⟩ => by subst e; simp [Cl.length h2]

theorem mapM_some {α β : Type} {g g' : α → Option β} {Q : β → Prop} : ∀ {l : List α} {xs : List β}, l.mapM g = some xs → (∀ f ∈ l, ∀ y, g f = some y → Q y ∧ g' f = some y) → l.mapM g' = some xs ∧ ∀ y ∈ xs, Q y
  | [], xs, h, _ => by simp at h; subst h; simp
  | a :: l, xs, h, hq => by
    rw [List.mapM_cons] at h ⊢
    cases h1 : g a with
    | none => simp [h1] at h
    | some y =>
      cases h2 : l.mapM g with
      | none => simp [h1, h2] at h
      | some ys =>
        simp [h1, h2] at h
        subst h
        obtain ⟨q1, q2⟩ := hq a (by simp) y h1
        obtain ⟨r1, r2⟩ := mapM_some (g' := g') h2 fun f hf => hq f (by simp [hf])
        exact ⟨by simp [q2, r1], fun z hz => by rcases List.mem_cons.1 hz with rfl | hz; exact q1; exact r2 z hz⟩

theorem flat_nil {α β : Type} {xs : List (α × List β)} (h : ∀ y ∈ xs, y.2 = []) : xs.flatMap (·.2) = [] := by
  rw [List.flatMap_eq_nil_iff]; exact h

def Fix (enc : TypeId × Value → H) (P : Program) (fuel : Nat) (t : TypeId) (cs : List Value) (x : DataW H × List MemPlace) : Prop :=
  x.2 = [] ∧ ∀ (w : World) (base : Nat) (sp : Nat → Bool) (held : Bool), DataW.trod enc P w base sp held fuel t cs = some x

theorem kindFs_mem {rec : TypeId → Option (List (Option IntKind))} : ∀ {fs : List Field} {off : Nat} {ks : List (Option IntKind)}, kindFs P rec fs off = some ks → ∀ f ∈ fs, ∃ l, rec f.type = some l
  | [], _, _, _, f, hf => by cases hf
  | g :: fs, off, ks, h, f, hf => by
    unfold kindFs at h
    split at h
    · cases h1 : rec g.type with
      | none => simp [h1] at h
      | some l =>
        simp only [h1] at h
        split at h
        · cases h2 : kindFs P rec fs (off + l.length) with
          | none => simp [h2] at h
          | some r =>
            rcases List.mem_cons.1 hf with rfl | hf
            · exact ⟨l, h1⟩
            · exact kindFs_mem h2 f hf
        · cases h
    · cases h

theorem mapM_each {α β : Type} {g : α → Option β} : ∀ {l : List α} {xs : List β}, l.mapM g = some xs → ∀ f ∈ l, ∃ y, g f = some y
  | [], _, _, f, hf => by cases hf
  | a :: l, xs, h, f, hf => by
    rw [List.mapM_cons] at h
    cases h1 : g a with
    | none => simp [h1] at h
    | some y =>
      cases h2 : l.mapM g with
      | none => simp [h1, h2] at h
      | some ys =>
        rcases List.mem_cons.1 hf with rfl | hf
        · exact ⟨y, h1⟩
        · exact mapM_each h2 f hf

theorem take_add (cs : List Value) (a b : Nat) (off : Nat) : (cs.drop off).take (a + b) = (cs.drop off).take a ++ (cs.drop (off + a)).take b := by
  rw [List.take_add, List.drop_drop]

theorem kindFs_cl {rec : TypeId → Option (List (Option IntKind))} {cs : List Value} : ∀ {fs : List Field} {off : Nat} {l : List (Option IntKind)}, kindFs P rec fs off = some l →
    (∀ f ∈ fs, ∀ lf, rec f.type = some lf → Cl lf ((cs.drop f.offset).take (P.cellsOf f.type))) → Cl l ((cs.drop off).take l.length)
  | [], off, l, h, _ => by simp [kindFs] at h; subst h; show _ = _; simp
  | g :: fs, off, l, h, hc => by
    unfold kindFs at h
    split at h
    · rename_i ho
      cases h1 : rec g.type with
      | none => simp [h1] at h
      | some lg =>
        simp only [h1] at h
        split at h
        · rename_i hsz
          cases h2 : kindFs P rec fs (off + lg.length) with
          | none => simp [h2] at h
          | some r =>
            simp only [h2, Option.some.injEq] at h
            subst h
            have e1 := hc g (by simp) lg h1
            rw [ho, hsz] at e1
            have e2 := kindFs_cl h2 fun f hf => hc f (by simp [hf])
            rw [List.length_append, take_add]
            exact e1.append e2
        · cases h
    · cases h

theorem array_cl {l : List (Option IntKind)} {cs : List Value} : ∀ (n i : Nat), (∀ j, i ≤ j → j < i + n → Cl l ((cs.drop (j * l.length)).take l.length)) → Cl (List.replicate n l).flatten ((cs.drop (i * l.length)).take (n * l.length))
  | 0, i, _ => by show _ = _; simp
  | n + 1, i, h => by
    rw [List.replicate_succ, List.flatten_cons, show (n + 1) * l.length = l.length + n * l.length by rw [Nat.add_mul]; omega, take_add]
    refine (h i (Nat.le_refl _) (by omega)).append ?_
    have := array_cl n (i + 1) fun j h1 h2 => h j (by omega) (by omega)
    rw [show (i + 1) * l.length = i * l.length + l.length by rw [Nat.add_mul]; omega] at this
    exact this

theorem trod_plain : ∀ (fuel d : Nat) (t : TypeId) (ks : List (Option IntKind)) (cs : List Value) (x : DataW H × List MemPlace) (w : World) (base : Nat) (sp : Nat → Bool) (held : Bool), kindsT P d t = some ks →
    DataW.trod enc P w base sp held fuel t cs = some x → Fix enc P fuel t cs x ∧ Cl ks cs := by
  intro fuel
  induction fuel with
  | zero => intro d t ks cs x w base sp held _ h; cases h
  | succ fuel ih =>
    intro d t ks cs x w base sp held hk h
    cases d with
    | zero => cases hk
    | succ d =>
      unfold kindsT at hk
      cases hu : P.underlying t with
      | none => simp [hu] at hk
      | some u =>
        cases u with
        | bool =>
          simp [hu] at hk; subst hk
          unfold DataW.trod at h
          simp only [hu] at h
          split at h <;> rename_i heq <;> simp_all
          subst h
          exact ⟨⟨rfl, fun w base sp held => by simp [DataW.trod, hu]⟩, ⟨_, [], rfl, ⟨_, rfl⟩, rfl⟩⟩
        | int k =>
          simp [hu] at hk; subst hk
          unfold DataW.trod at h
          simp only [hu] at h
          split at h <;> rename_i heq <;> simp_all
          obtain ⟨⟨rfl, hw⟩, rfl⟩ := h
          exact ⟨⟨rfl, fun w base sp held => by simp [DataW.trod, hu, hw]⟩, ⟨_, [], rfl, ⟨_, rfl, hw⟩, rfl⟩⟩
        | struct fs =>
          simp only [hu] at hk
          cases hf : kindFs P (kindsT P d) fs.toList 0 with
          | none => simp [hf] at hk
          | some l =>
            simp only [hf] at hk
            split at hk
            · rename_i hsz
              cases hk
              unfold DataW.trod at h
              simp only [hu] at h
              split at h
              · rename_i hlen
                cases hm : (fs.toList.mapM fun f => DataW.trod enc P w base sp held fuel f.type ((cs.drop f.offset).take (P.cellsOf f.type))) with
                | none => simp [hm] at h
                | some xs =>
                  simp only [hm, Option.map_some, Option.some.injEq] at h
                  subst h
                  have each := fun f hf' => mapM_each hm f hf'
                  have sub : ∀ f ∈ fs.toList, ∀ y, DataW.trod enc P w base sp held fuel f.type ((cs.drop f.offset).take (P.cellsOf f.type)) = some y → Fix enc P fuel f.type ((cs.drop f.offset).take (P.cellsOf f.type)) y := fun f hf' y hy => by
                    obtain ⟨lf, hlf⟩ := kindFs_mem hf f hf'
                    exact (ih d f.type lf _ y w base sp held hlf hy).1
                  refine ⟨⟨flat_nil (mapM_some (g' := fun f => DataW.trod enc P w base sp held fuel f.type ((cs.drop f.offset).take (P.cellsOf f.type))) hm fun f hf' y hy => ⟨(sub f hf' y hy).1, hy⟩).2, fun w' base' sp' held' => ?_⟩, ?_⟩
                  · have := (mapM_some (Q := fun y => y.2 = []) (g' := fun f => DataW.trod enc P w' base' sp' held' fuel f.type ((cs.drop f.offset).take (P.cellsOf f.type))) hm fun f hf' y hy => ⟨(sub f hf' y hy).1, (sub f hf' y hy).2 w' base' sp' held'⟩).1
                    unfold DataW.trod
                    simp only [hu, hlen, if_true, this, Option.map_some]
                  · have := kindFs_cl hf fun f hf' lf hlf => by
                      obtain ⟨y, hy⟩ := each f hf'
                      exact (ih d f.type lf _ y w base sp held hlf hy).2
                    rw [List.drop_zero, List.take_of_length_le (by omega)] at this
                    exact this
              · cases h
            · cases hk
        | array n e =>
          simp only [hu] at hk
          cases hf : kindsT P d e with
          | none => simp [hf] at hk
          | some l =>
            simp only [hf] at hk
            split at hk
            · rename_i hsz
              obtain ⟨hs1, hs2⟩ := hsz
              cases hk
              unfold DataW.trod at h
              simp only [hu] at h
              split at h
              · rename_i hlen
                cases hm : ((List.range n).mapM fun i => DataW.trod enc P w base sp held fuel e ((cs.drop (i * P.cellsOf e)).take (P.cellsOf e))) with
                | none => simp [hm] at h
                | some xs =>
                  simp only [hm, Option.map_some, Option.some.injEq] at h
                  subst h
                  have each := fun f hf' => mapM_each hm f hf'
                  have sub : ∀ i ∈ List.range n, ∀ y, DataW.trod enc P w base sp held fuel e ((cs.drop (i * P.cellsOf e)).take (P.cellsOf e)) = some y → Fix enc P fuel e ((cs.drop (i * P.cellsOf e)).take (P.cellsOf e)) y := fun i hi y hy =>
                    (ih d e l _ y w base sp held hf hy).1
                  refine ⟨⟨flat_nil (mapM_some (g' := fun i => DataW.trod enc P w base sp held fuel e ((cs.drop (i * P.cellsOf e)).take (P.cellsOf e))) hm fun f hf' y hy => ⟨(sub f hf' y hy).1, hy⟩).2, fun w' base' sp' held' => ?_⟩, ?_⟩
                  · have := (mapM_some (Q := fun y => y.2 = []) (g' := fun i => DataW.trod enc P w' base' sp' held' fuel e ((cs.drop (i * P.cellsOf e)).take (P.cellsOf e))) hm fun f hf' y hy => ⟨(sub f hf' y hy).1, (sub f hf' y hy).2 w' base' sp' held'⟩).1
                    unfold DataW.trod
                    simp only [hu, hlen, if_true, this, Option.map_some]
                  · have := array_cl (l := l) (cs := cs) n 0 fun j _ hj => by
                      obtain ⟨y, hy⟩ := each j (by simpa using hj)
                      have := (ih d e l _ y w base sp held hf hy).2
                      rw [hs1] at this; exact this
                    rw [Nat.zero_mul, List.drop_zero, List.take_of_length_le (by omega)] at this
                    exact this
              · cases h
            · cases hk
        | _ => simp [hu] at hk

/-- an argument of plain data -/
theorem arg_plain {d : Nat} {t : TypeId} {ks : List (Option IntKind)} (hk : kindsT P d t = some ks) {w : World} {base : Nat} {sp : Nat → Bool} {held : Bool} {v : Value} {x : DataW H} {ps : List MemPlace}
    (h : DataW.Trod enc P w base sp held t v x ps) : ps = [] ∧ Cl ks v.cells.toList ∧ ∀ (w : World) (base : Nat) (sp : Nat → Bool) (held : Bool), DataW.Trod enc P w base sp held t v x [] := by
  obtain ⟨fuel, h⟩ := h
  obtain ⟨⟨h1, h2⟩, h3⟩ := trod_plain fuel d t ks _ _ w base sp held hk h
  simp only at h1
  subst h1
  exact ⟨rfl, h3, fun w base sp held => ⟨fuel, h2 w base sp held⟩⟩

/-- blocks come alone -/
theorem kept_of {w w' : World} (ho : w'.os = w.os) (hp : w'.output = w.output) (hk : ∀ (B : Nat) (o : Obj), w.heap[B]? = some o → w'.heap[B]? = some o) (may : MemPlace → Prop) : w.keptBut w' may := by
  refine ⟨ho, hp, fun i hi => ?_⟩
  have h1 : w.heap[i]? = some w.heap[i] := Array.getElem?_eq_getElem hi
  rw [h1, hk i _ h1]
  cases w.heap[i] <;> simp
end
end Go.Ab
