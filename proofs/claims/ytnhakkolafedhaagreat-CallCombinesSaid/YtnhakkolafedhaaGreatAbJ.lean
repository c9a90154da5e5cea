/- Each operation, sixth part: maps. -/
import Derived.Test.YtnhakkolafedhaaGreatAbI
set_option linter.unusedVariables false
set_option linter.unusedSimpArgs false
namespace Go.Ab
section
variable {P : Program} {cx : Cx} {σ : Nat → Int}

theorem forIn_ok {P : Program} {α : Type} (f : α → Sem (ForInStep PUnit)) : ∀ (l : List α) (w : World), (∀ x ∈ l, (f x).run P w = .ok (.yield PUnit.unit) w) →
    (forIn l PUnit.unit (fun x _ => f x) : Sem PUnit).run P w = .ok PUnit.unit w
  | [], w, _ => by simp
  | x :: l, w, h => by
    simp only [List.forIn_cons, Sem.run_bind, h x (by simp), Result.andThen_ok]
    exact forIn_ok f l w fun y hy => h y (by simp [hy])

theorem shape_int {d : Nat} {t : TypeId} {sh : List Bool} {q : IntKind} (h : shapeOf cx (d + 1) t = some sh) (hu : und cx t = some (.int q)) : sh = [false] := by
  unfold shapeOf at h
  rw [hu] at h
  simp at h
  exact h.2.symm
theorem shape_bool {d : Nat} {t : TypeId} {sh : List Bool} (h : shapeOf cx (d + 1) t = some sh) (hu : und cx t = some .bool) : sh = [true] := by
  unfold shapeOf at h
  rw [hu] at h
  simp at h
  exact h.2.symm

theorem fields_fit {d : Nat} : ∀ {fs : List Field} {off : Nat} {l : List Bool}, shapeFs (shapeOf cx d) fs off = some l → ∀ f ∈ fs, ∃ s, shapeOf cx d f.type = some s ∧ off ≤ f.offset ∧ f.offset + s.length ≤ off + l.length
  | [], off, l, h, f, hf => by cases hf
  | g :: fs, off, l, h, f, hf => by
    unfold shapeFs at h
    split at h
    · cases h
    · rename_i hn
      simp at hn
      cases h1 : shapeOf cx d g.type with
      | none => simp [h1] at h
      | some l1 =>
        cases h2 : shapeFs (shapeOf cx d) fs (off + l1.length) with
        | none => simp [h1, h2] at h
        | some l2 =>
          simp [h1, h2] at h; subst h
          rcases List.mem_cons.1 hf with rfl | hf
          · exact ⟨l1, h1, by omega, by simp; omega⟩
          · obtain ⟨s, e1, e2, e3⟩ := fields_fit h2 f hf
            exact ⟨s, e1, by omega, by simp; omega⟩

theorem checkKey_shape (hy : Hyp P cx) : ∀ (d : Nat) (t : TypeId) (sh : List Bool), shapeOf cx d t = some sh → (∀ n e, und cx t ≠ some (.array n e)) → d ≤ 2 → ∀ (A : Value) (as : List Value) (em : Bool) (D : Nat) (w : World), d ≤ D → CellsOf cx t A as → as.length = sh.length →
    (Instr.checkKey em D t A).run P w = .ok () w := by
  intro d
  induction d with
  | zero => intro t sh h; cases h
  | succ d ih =>
    intro t sh h hna h2 A as em D w hD hA hla
    obtain ⟨D, rfl⟩ : ∃ m, D = m + 1 := ⟨D - 1, by omega⟩
    unfold shapeOf at h
    split at h
    · rename_i hu; simp [Instr.checkKey, run_underlying (und_spec hy hu)]
    · rename_i hu; simp [Instr.checkKey, run_underlying (und_spec hy hu)]
    · rename_i fs hu
      split at h
      · split at h
        · rename_i l hl
          split at h
          · simp at h; subst h
            have hg : aggOf cx t = some true := by unfold aggOf; rw [hu]
            obtain ⟨xs, rfl, rfl⟩ := cellsOf_agg hg hA
            simp only [Instr.checkKey, Sem.run_bind, run_underlying (und_spec hy hu), Result.andThen_ok]
            rw [← Array.forIn_toList]
            rw [forIn_ok (P := P) _ fs.toList w (fun f hf => by
              obtain ⟨s, e1, e2, e3⟩ := fields_fit hl f hf
              simp at hla
              obtain ⟨B, hB1, hB2⟩ := part_cells hy (shape_sz e1) (shape_agg e1).1 (shape_agg e1).2 (arr := xs) (off := f.offset) (by omega) w
              have hc : (Instr.checkKey em D f.type B).run P w = .ok () w := ih f.type s e1 (fun n e hu' => by
                cases d with
                | zero => cases e1
                | succ d =>
                  have hd0 : d = 0 := by omega
                  subst hd0
                  unfold shapeOf at e1
                  rw [hu'] at e1
                  simp [shapeOf] at e1) (by omega) B _ em D w (by omega) hB2 (by simp; omega)
              by_cases hn : f.name = "_"
              · simp [hn]
              · simp [hn, hB1, hc])]
            rfl
          · cases h
        · cases h
      · cases h
    · rename_i n e hu; exact absurd hu (hna n e)
    · cases h

/-- what is told of one key against another one -/
def KE (cx : Cx) (σ : Nat → Int) (kt : TypeId) (sh : List Bool) (a b : V) (r : Bool) : Prop :=
  ∀ (ι : Inj) (x y : Value), VR σ ι a x → VR σ ι b y → ∃ as bs, CellsOf cx kt x as ∧ CellsOf cx kt y bs ∧ as.length = sh.length ∧ bs.length = sh.length ∧ seqEq sh as bs = some r

theorem keyCells_some {kt : TypeId} {ag : Bool} (hg : aggOf cx kt = some ag) {v : V} {k : List V → R} {r : V × H} (e : keyCells ag v k = some r) :
    ∃ c, k c = some r ∧ ∀ (ι : Inj) (x : Value), VR σ ι v x → ∃ as, CellsOf cx kt x as ∧ VRL σ ι c as := by
  cases ag with
  | true =>
    obtain ⟨c, rfl, e⟩ := V.onAgg_some e
    exact ⟨c, e, fun ι x h => VR.cellsOf hg h⟩
  | false =>
    obtain ⟨h1, e⟩ := ifK_some.1 e
    refine ⟨[v], e, fun ι x h => ⟨[x], ?_, ⟨x, [], rfl, h, rfl⟩⟩⟩
    unfold CellsOf; rw [hg]

theorem keyEq_some {S : Sy} (hS : SyOk σ P S) {kt : TypeId} {ag : Bool} (hg : aggOf cx kt = some ag) {sh : List Bool} {a b : V} {k : Bool → R} {r : V × H} (e : keyEq S ag sh a b k = some r) : ∃ q, k q = some r ∧ KE cx σ kt sh a b q := by
  obtain ⟨c1, e, h1⟩ := keyCells_some (σ := σ) hg e
  obtain ⟨c2, e, h2⟩ := keyCells_some (σ := σ) hg e
  obtain ⟨q, e, l1, l2, hq⟩ := eqLK_some hS e
  refine ⟨q, e, fun ι x y hx hy => ?_⟩
  obtain ⟨as, a1, a2⟩ := h1 ι x hx
  obtain ⟨bs, b1, b2⟩ := h2 ι y hy
  exact ⟨as, bs, a1, b1, by rw [a2.length, l1], by rw [b2.length, l2], hq ι as bs a2 b2⟩

theorem keyOk_some {kt : TypeId} {ag : Bool} (hg : aggOf cx kt = some ag) {sh : List Bool} {a : V} {k : R} {r : V × H} (e : keyOk ag sh a k = some r) :
    k = some r ∧ ∀ (ι : Inj) (x : Value), VR σ ι a x → ∃ as, CellsOf cx kt x as ∧ as.length = sh.length := by
  obtain ⟨c, e, h⟩ := keyCells_some (σ := σ) hg e
  obtain ⟨hl, e⟩ := ifK_some.1 e
  have hl := Nat.eq_of_beq_eq_true hl
  simp only [llen_eq] at hl
  refine ⟨e, fun ι x hx => ?_⟩
  obtain ⟨as, h1, h2⟩ := h ι x hx
  exact ⟨as, h1, by rw [h2.length, hl]⟩

/-- where a key is found among entries -/
inductive Fnd (cx : Cx) (σ : Nat → Int) (kt : TypeId) (sh : List Bool) (key : V) : List (V × V) → Option (Nat × V) → Prop where
  | nil : Fnd cx σ kt sh key [] none
  | here {e : V × V} {es : List (V × V)} : KE cx σ kt sh key e.1 true → Fnd cx σ kt sh key (e :: es) (some (0, e.2))
  | there {e : V × V} {es : List (V × V)} {r : Option (Nat × V)} : KE cx σ kt sh key e.1 false → Fnd cx σ kt sh key es r → Fnd cx σ kt sh key (e :: es) (r.map fun p => (p.1 + 1, p.2))

theorem findK_some {S : Sy} (hS : SyOk σ P S) {kt : TypeId} {ag : Bool} (hg : aggOf cx kt = some ag) {sh : List Bool} {key : V} : ∀ {es : List (V × V)} {k : Option V → R} {r : V × H}, findK S ag sh key es k = some r →
    ∃ f, k (f.map (·.2)) = some r ∧ Fnd cx σ kt sh key es f
  | [], k, r, e => ⟨none, e, .nil⟩
  | x :: es, k, r, e => by
    obtain ⟨q, e, hq⟩ := keyEq_some hS hg e
    cases q with
    | true => exact ⟨some (0, x.2), e, .here hq⟩
    | false =>
      obtain ⟨f, e, hf⟩ := findK_some hS hg (es := es) e
      refine ⟨_, ?_, .there hq hf⟩
      rw [← e]; cases f <;> rfl
theorem setKK_some {S : Sy} (hS : SyOk σ P S) {kt : TypeId} {ag : Bool} (hg : aggOf cx kt = some ag) {sh : List Bool} {key v : V} : ∀ {es : List (V × V)} {k : List (V × V) → R} {r : V × H}, setKK S ag sh key v es k = some r →
    ∃ f es', k es' = some r ∧ Fnd cx σ kt sh key es f ∧ (match f with | none => es' = es ++ [(key, v)] | some (i, _) => es' = es.set i (key, v) ∧ i < es.length)
  | [], k, r, e => ⟨none, _, e, .nil, rfl⟩
  | x :: es, k, r, e => by
    obtain ⟨q, e, hq⟩ := keyEq_some hS hg e
    cases q with
    | true => exact ⟨some (0, x.2), _, e, .here hq, rfl, by simp⟩
    | false =>
      obtain ⟨f, es', e, hf, hes⟩ := setKK_some hS hg (es := es) e
      refine ⟨_, _, e, .there hq hf, ?_⟩
      cases f with
      | none => simp only [Option.map_none] at hes ⊢; rw [hes]; rfl
      | some p => obtain ⟨i, u⟩ := p; simp only [Option.map_some] at hes ⊢; rw [hes.1]; exact ⟨rfl, by simp; exact hes.2⟩
theorem delKK_some {S : Sy} (hS : SyOk σ P S) {kt : TypeId} {ag : Bool} (hg : aggOf cx kt = some ag) {sh : List Bool} {key : V} : ∀ {es : List (V × V)} {k : List (V × V) → R} {r : V × H}, delKK S ag sh key es k = some r →
    ∃ f es', k es' = some r ∧ Fnd cx σ kt sh key es f ∧ (match f with | none => es' = es | some (i, _) => es' = es.eraseIdx i ∧ i < es.length)
  | [], k, r, e => ⟨none, _, e, .nil, rfl⟩
  | x :: es, k, r, e => by
    obtain ⟨q, e, hq⟩ := keyEq_some hS hg e
    cases q with
    | true => exact ⟨some (0, x.2), _, e, .here hq, rfl, by simp⟩
    | false =>
      obtain ⟨f, es', e, hf, hes⟩ := delKK_some hS hg (es := es) e
      refine ⟨_, _, e, .there hq hf, ?_⟩
      cases f with
      | none => simp only [Option.map_none] at hes ⊢; rw [hes]
      | some p => obtain ⟨i, u⟩ := p; simp only [Option.map_some] at hes ⊢; rw [hes.1]; exact ⟨rfl, by simp; exact hes.2⟩

theorem same_agg (n : Nat) (a : Array Value) (h : ∀ x ∈ a.toList, (∃ b, x = .bool b) ∨ ∃ k m, x = .int k m) : Instr.sameBits (n + 1) (.agg a) (.agg a) = true := by
  simp only [Instr.sameBits, beq_self_eq_true, Bool.true_and, List.all_eq_true]
  intro p hp
  have : p.1 = p.2 ∧ p.1 ∈ a.toList := by
    obtain ⟨i, hi, rfl⟩ := List.getElem_of_mem hp
    simp
  obtain ⟨h1, h2⟩ := this
  rw [← h1]
  rcases h p.1 h2 with ⟨b, hb⟩ | ⟨k, m, hb⟩ <;> rw [hb] <;> cases n <;> simp [Instr.sameBits]
theorem Fnd.real (hy : Hyp P cx) {kt : TypeId} {sh : List Bool} (hsh : shapeOf cx 2 kt = some sh) {ι : Inj} {key : V} {x : Value} (hx : VR σ ι key x) (w : World) : ∀ {es : List (V × V)} {f : Option (Nat × V)}, Fnd cx σ kt sh key es f →
    ∀ {es' : List MapEntry}, VRL σ ι (es.map (·.1)) (es'.map (·.key)) → VRL σ ι (es.map (·.2)) (es'.map (·.val)) → ∀ i0,
      ∃ g : Option (Nat × Value), (Instr.findAsking kt x es' i0).run P w = .ok g w ∧ (match f, g with | none, none => True | some (i, v), some (j, u) => j = i0 + i ∧ VR σ ι v u ∧ (∃ e, es'[i]? = some e ∧ e.key = x ∧ Instr.sameBits 10000 x x = true) | _, _ => False) ∧
        (∀ d, und cx kt = some d → (∃ q, d = .int q) ∨ d = .bool → Instr.findNow d x es' i0 = some g)
  | [], _, .nil, es', hk, hv, i0 => by
    have : es' = [] := by simpa using VRL.nil.1 hk
    subst this
    exact ⟨none, by simp [Instr.findAsking], trivial, fun d _ _ => rfl⟩
  | e :: es, _, .here h, es', hk, hv, i0 => by
    cases es' with
    | nil => obtain ⟨_, _, h, _⟩ := hk; simp at h
    | cons e' es' =>
      obtain ⟨kx, ks, hk1, hk2, hk3⟩ := hk
      obtain ⟨vx, vs, hv1, hv2, hv3⟩ := hv
      simp at hk1 hv1
      obtain ⟨rfl, rfl⟩ := hk1
      obtain ⟨rfl, rfl⟩ := hv1
      obtain ⟨as, bs, ha, hb, la, lb, hs⟩ := h ι x e'.key hx hk2
      have hE := equalIn_shape hy 2 kt sh hsh x e'.key as bs true 10000 w (by omega) ha hb la lb hs
      have heq : e'.key = x := by
        obtain ⟨h1, _⟩ := seqEq_true hs
        cases hg : aggOf cx kt with
        | none => unfold CellsOf at ha hb; rw [hg] at ha hb; simp at ha hb; rw [ha, hb] at h1; simpa using h1.symm
        | some g => cases g with
          | true =>
            obtain ⟨a1, rfl, rfl⟩ := cellsOf_agg hg ha
            obtain ⟨b1, hb1, rfl⟩ := cellsOf_agg hg hb
            rw [hb1, Array.toList_inj.1 h1]
          | false => rw [cellsOf_one hg ha, cellsOf_one hg hb] at h1; simpa using h1.symm
      have hbits : Instr.sameBits 10000 x x = true := by
        have hp := (seqEq_true hs).2
        cases hg : aggOf cx kt with
        | none => unfold CellsOf at ha; rw [hg] at ha; simp at ha; subst ha; rcases hp x (by simp) with ⟨b, rfl⟩ | ⟨k, n, rfl⟩ <;> simp [Instr.sameBits]
        | some g => cases g with
          | true => obtain ⟨a1, rfl, rfl⟩ := cellsOf_agg hg ha; exact same_agg 9999 a1 hp
          | false => have := cellsOf_one hg ha; subst this; rcases hp x (by simp) with ⟨b, rfl⟩ | ⟨k, n, rfl⟩ <;> simp [Instr.sameBits]
      refine ⟨some (i0, e'.val), ?_, ⟨by simp, hv2, e', by simp, heq, hbits⟩, fun d hd hdd => ?_⟩
      · have hE' : (Op.equal kt x e'.key).run P w = .ok true w := hE
        simp [Instr.findAsking, hE']
      · have hag : aggOf cx kt = some false := by unfold aggOf; rw [hd]; rcases hdd with ⟨q, rfl⟩ | rfl <;> rfl
        rw [cellsOf_one hag ha, cellsOf_one hag hb] at hs
        obtain ⟨h1, h2⟩ := seqEq_true hs
        have hor := h2 x (by simp)
        rw [heq] at hs
        rcases hdd with ⟨q, rfl⟩ | rfl
        · rw [shape_int hsh hd] at hs
          rcases hor with ⟨b, rfl⟩ | ⟨k, n, rfl⟩
          · simp [seqEq, scal] at hs
          · simp [Instr.findNow, Instr.sameNow, heq]
        · rw [shape_bool hsh hd] at hs
          rcases hor with ⟨b, rfl⟩ | ⟨k, n, rfl⟩
          · simp [Instr.findNow, Instr.sameNow, heq]
          · simp [seqEq, scal] at hs
  | e :: es, _, .there (r := r) h hf, es', hk, hv, i0 => by
    cases es' with
    | nil => obtain ⟨_, _, h, _⟩ := hk; simp at h
    | cons e' es' =>
      obtain ⟨kx, ks, hk1, hk2, hk3⟩ := hk
      obtain ⟨vx, vs, hv1, hv2, hv3⟩ := hv
      simp at hk1 hv1
      obtain ⟨rfl, rfl⟩ := hk1
      obtain ⟨rfl, rfl⟩ := hv1
      obtain ⟨as, bs, ha, hb, la, lb, hs⟩ := h ι x e'.key hx hk2
      have hE : (Op.equal kt x e'.key).run P w = .ok false w := equalIn_shape hy 2 kt sh hsh x e'.key as bs false 10000 w (by omega) ha hb la lb hs
      obtain ⟨g, h1, h2, h3⟩ := Fnd.real hy hsh hx w hf hk3 hv3 (i0 + 1)
      refine ⟨g, by simp [Instr.findAsking, hE, h1], ?_, fun d hd hdd => ?_⟩
      · cases r with
        | none => cases g with
          | none => trivial
          | some q => exact h2
        | some p =>
          obtain ⟨i, v⟩ := p
          cases g with
          | none => exact h2
          | some q => obtain ⟨j, u⟩ := q; obtain ⟨h4, h5, e1, h6, h7, h8⟩ := h2; exact ⟨by rw [h4]; omega, h5, e1, by simpa using h6, h7, h8⟩
      · have hag : aggOf cx kt = some false := by unfold aggOf; rw [hd]; rcases hdd with ⟨q, rfl⟩ | rfl <;> rfl
        rw [cellsOf_one hag ha, cellsOf_one hag hb] at hs
        have h3' := h3 d hd hdd
        rcases hdd with ⟨q, rfl⟩ | rfl
        · rw [shape_int hsh hd] at hs
          simp only [seqEq] at hs
          cases hsc : scal false x e'.key with
          | none => rw [hsc] at hs; cases hs
          | some b =>
            cases b with
            | true => rw [hsc] at hs; cases hs
            | false =>
              obtain ⟨k, a1, b1, rfl, hkey, hab⟩ := scal_f hsc
              simp only [Instr.findNow, hkey, Instr.sameNow, if_true, ← hab]; exact h3'
        · rw [shape_bool hsh hd] at hs
          simp only [seqEq] at hs
          cases hsc : scal true x e'.key with
          | none => rw [hsc] at hs; cases hs
          | some b =>
            cases b with
            | true => rw [hsc] at hs; cases hs
            | false =>
              obtain ⟨a1, b1, rfl, hkey, hab⟩ := scal_t hsc
              simp only [Instr.findNow, hkey, Instr.sameNow, ← hab]; exact h3'
end
end Go.Ab
