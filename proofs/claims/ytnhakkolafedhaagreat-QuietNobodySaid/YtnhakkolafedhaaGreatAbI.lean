/- Each operation, fifth part: equality cell by cell, maps. -/
import Derived.Test.YtnhakkolafedhaaGreatAbH
set_option linter.unusedVariables false
set_option linter.unusedSimpArgs false
namespace Go.Ab

/-- one real cell against another one -/
def scal : Bool → Value → Value → Option Bool
  | true, .bool a, .bool b => some (a == b)
  | false, .int k a, .int k' b => if k = k' then some (a == b) else none
  | _, _, _ => none
def seqEq : List Bool → List Value → List Value → Option Bool
  | [], [], [] => some true
  | s :: sh, a :: as, b :: bs => match scal s a b with
    | some true => seqEq sh as bs
    | some false => some false
    | none => none
  | _, _, _ => none

theorem seqEq_append {s2 : List Bool} {a2 b2 : List Value} : ∀ {s1 : List Bool} {a1 b1 : List Value}, a1.length = s1.length → b1.length = s1.length →
    seqEq (s1 ++ s2) (a1 ++ a2) (b1 ++ b2) = match seqEq s1 a1 b1 with | some true => seqEq s2 a2 b2 | x => x
  | [], [], [], _, _ => rfl
  | s :: s1, a :: a1, b :: b1, ha, hb => by
    have ih := seqEq_append (s2 := s2) (a2 := a2) (b2 := b2) (s1 := s1) (a1 := a1) (b1 := b1) (by simpa using ha) (by simpa using hb)
    simp only [List.cons_append, seqEq]
    cases scal s a b with
    | none => rfl
    | some r => cases r with
      | true => exact ih
      | false => rfl
  | [], _ :: _, _, ha, _ => by simp at ha
  | [], [], _ :: _, _, hb => by simp at hb
  | _ :: _, [], _, ha, _ => by simp at ha
  | _ :: _, _ :: _, [], _, hb => by simp at hb

theorem scal_true {s : Bool} {a b : Value} (h : scal s a b = some true) : a = b ∧ ((∃ x, a = .bool x) ∨ ∃ k n, a = .int k n) := by
  unfold scal at h
  split at h
  · simp at h; exact ⟨by rw [h], .inl ⟨_, rfl⟩⟩
  · split at h
    · rename_i hk; simp at h; exact ⟨by rw [h, hk], .inr ⟨_, _, rfl⟩⟩
    · cases h
  · cases h
theorem scal_t {A B : Value} {r : Bool} (h : scal true A B = some r) : ∃ a b, A = .bool a ∧ B = .bool b ∧ r = (a == b) := by
  cases A <;> cases B <;> simp [scal] at h
  exact ⟨_, _, rfl, rfl, h.symm⟩
theorem scal_f {A B : Value} {r : Bool} (h : scal false A B = some r) : ∃ k a b, A = .int k a ∧ B = .int k b ∧ r = (a == b) := by
  cases A <;> cases B <;> simp [scal] at h
  obtain ⟨rfl, h⟩ := h
  exact ⟨_, _, _, rfl, rfl, h.symm⟩
theorem seqEq_true : ∀ {sh : List Bool} {as bs : List Value}, seqEq sh as bs = some true → as = bs ∧ ∀ a ∈ as, (∃ x, a = .bool x) ∨ ∃ k n, a = .int k n
  | [], [], [], _ => ⟨rfl, by simp⟩
  | s :: sh, a :: as, b :: bs, h => by
    simp only [seqEq] at h
    cases hs : scal s a b with
    | none => rw [hs] at h; cases h
    | some r => cases r with
      | false => rw [hs] at h; cases h
      | true =>
        rw [hs] at h
        obtain ⟨h1, h2⟩ := scal_true hs
        obtain ⟨h3, h4⟩ := seqEq_true h
        exact ⟨by rw [h1, h3], fun x hx => by rcases List.mem_cons.1 hx with rfl | hx; exact h2; exact h4 x hx⟩
  | [], [], _ :: _, h => by simp [seqEq] at h
  | [], _ :: _, _, h => by simp [seqEq] at h
  | _ :: _, [], _, h => by simp [seqEq] at h
  | _ :: _, _ :: _, [], h => by simp [seqEq] at h

section
variable {P : Program} {cx : Cx} {σ : Nat → Int}

theorem eqcK_some {S : Sy} (hS : SyOk σ P S) {isB : Bool} {v w : V} {k : Bool → R} {r : V × H} (e : eqcK S isB v w k = some r) :
    ∃ b, k b = some r ∧ ∀ (ι : Inj) (x y : Value), VR σ ι v x → VR σ ι w y → scal isB x y = some b := by
  cases isB with
  | true =>
    obtain ⟨a, rfl, e1⟩ := V.onBool_some (v := v) (k := fun a => w.onBool fun b => k (beqB a b)) e
    obtain ⟨b, rfl, e2⟩ := V.onBool_some e1
    refine ⟨_, e2, fun ι x y hx hy => ?_⟩
    rw [VR.bool] at hx hy
    subst hx; subst hy
    simp [scal, beqB_eq]
  | false =>
    have sym : ∀ (e : (Option.rec (motive := fun _ => R) none (fun x => x.onBool k) (S.bin .eql v w)) = some r), ∃ b, k b = some r ∧ ∀ (ι : Inj) (x y : Value), VR σ ι v x → VR σ ι w y → scal false x y = some b := by
      intro e
      cases hb : S.bin .eql v w with
      | none => rw [hb] at e; cases e
      | some u =>
        rw [hb] at e
        obtain ⟨b, rfl, e⟩ := V.onBool_some e
        refine ⟨b, e, fun ι x y hx hy => ?_⟩
        obtain ⟨k1, k2, n, m, rfl, rfl, hrun⟩ := hS.bin .eql v w _ hb ι x y hx hy
        obtain ⟨c, hc1, hc2⟩ := hrun 0 default
        have hc := VR.bool.1 (hc2 ι)
        subst hc
        simp only [binOp] at hc1
        by_cases hk : k1 = k2
        · simp only [hk, ne_eq, not_true_eq_false, if_false, Op.intCmp, Sem.run_pure] at hc1
          injection hc1 with h1 _
          injection h1 with h1
          simp [scal, hk, h1]
        · simp [hk] at hc1
    have e' : (v.onInt (Option.rec (motive := fun _ => R) none (fun x => x.onBool k) (S.bin .eql v w)) fun i a =>
      w.onInt (Option.rec (motive := fun _ => R) none (fun x => x.onBool k) (S.bin .eql v w)) fun j b => ifK (kbeq i j) (k (ieq a b))) = some r := e
    rcases V.onInt_some e' with ⟨i, a, rfl, e1⟩ | ⟨_, e1⟩
    · rcases V.onInt_some e1 with ⟨j, b, rfl, e2⟩ | ⟨_, e2⟩
      · obtain ⟨hk, e2⟩ := ifK_some.1 e2
        rw [kbeq_iff] at hk
        refine ⟨_, e2, fun ι x y hx hy => ?_⟩
        rw [VR.int] at hx hy
        subst hx; subst hy
        simp [scal, hk, ieq_eq]
      · exact sym e2
    · exact sym e1

theorem eqL_some {S : Sy} (hS : SyOk σ P S) : ∀ {sh : List Bool} {vs ws : List V} {k : Bool → R} {r : V × H}, eqL S sh vs ws k = some r →
    ∃ b, k b = some r ∧ ∀ (ι : Inj) (xs ys : List Value), VRL σ ι vs xs → VRL σ ι ws ys → seqEq sh xs ys = some b := by
  intro sh
  induction sh with
  | nil =>
    intro vs ws k r e
    cases vs with
    | cons => cases e
    | nil => cases ws with
      | cons => cases e
      | nil => exact ⟨true, e, fun ι xs ys hx hy => by rw [VRL.nil.1 hx, VRL.nil.1 hy]; rfl⟩
  | cons s sh ih =>
    intro vs ws k r e
    cases vs with
    | nil => cases e
    | cons v vs => cases ws with
      | nil => cases e
      | cons w ws =>
        have e' : (eqcK S s v w fun r => Bool.rec (motive := fun _ => R) (k false) (eqL S sh vs ws k) r) = some r := e
        obtain ⟨b, e1, hb⟩ := eqcK_some hS e'
        cases b with
        | false =>
          refine ⟨false, e1, fun ι xs ys hx hy => ?_⟩
          obtain ⟨x, xs, rfl, hx1, hx2⟩ := hx
          obtain ⟨y, ys, rfl, hy1, hy2⟩ := hy
          simp [seqEq, hb ι x y hx1 hy1]
        | true =>
          obtain ⟨b, e2, hb2⟩ := ih e1
          refine ⟨b, e2, fun ι xs ys hx hy => ?_⟩
          obtain ⟨x, xs, rfl, hx1, hx2⟩ := hx
          obtain ⟨y, ys, rfl, hy1, hy2⟩ := hy
          simp [seqEq, hb ι x y hx1 hy1, hb2 ι xs ys hx2 hy2]

/-! ### the model's '==' of a type whose cells are told -/
/-- a value of a type, and its cells -/
def CellsOf (cx : Cx) (t : TypeId) (A : Value) (as : List Value) : Prop := match aggOf cx t with
  | some true => ∃ arr : Array Value, A = .agg arr ∧ arr.toList = as
  | _ => as = [A]

theorem shape_sz {d : Nat} {t : TypeId} {sh : List Bool} (h : shapeOf cx d t = some sh) : szOf cx t = some sh.length := by
  cases d with
  | zero => cases h
  | succ d =>
    unfold shapeOf at h
    split at h
    · split at h
      · rename_i hs; simp at h hs; subst h; exact hs
      · cases h
    · split at h
      · rename_i hs; simp at h hs; subst h; exact hs
      · cases h
    · split at h
      · split at h
        · split at h
          · rename_i hs; simp at h hs; subst h; exact hs
          · cases h
        · cases h
      · cases h
    · split at h
      · split at h
        · rename_i hs; simp at h hs; subst h; rw [hs.2]; simp
        · cases h
      · cases h
    · cases h

theorem part_cells (hy : Hyp P cx) {t : TypeId} {n : Nat} (hs : szOf cx t = some n) (ha : (aggOf cx t).isSome = true) (h1 : aggOf cx t = some false → n = 1) {arr : Array Value} {off : Nat} (hle : off + n ≤ arr.size) (w : World) :
    ∃ A, (part t arr off).run P w = .ok A w ∧ CellsOf cx t A ((arr.toList.drop off).take n) := by
  obtain ⟨g, hg⟩ := Option.isSome_iff_exists.1 ha
  cases g with
  | true =>
    refine ⟨.agg (arr.extract off (off + n)), by simp [part, aggOf_spec hy hg, szOf_spec hy hs], ?_⟩
    unfold CellsOf
    rw [hg]
    exact ⟨_, rfl, by simp [Array.toList_extract, List.extract]⟩
  | false =>
    have hn := h1 hg
    subst hn
    have hlt : off < arr.size := by omega
    refine ⟨arr[off], by simp [part, aggOf_spec hy hg, hlt], ?_⟩
    unfold CellsOf
    rw [hg]
    show (arr.toList.drop off).take 1 = [arr[off]]
    rw [List.drop_eq_getElem_cons (by simpa using hlt)]
    simp

theorem shape_agg {d : Nat} {t : TypeId} {sh : List Bool} (h : shapeOf cx d t = some sh) : (aggOf cx t).isSome = true ∧ (aggOf cx t = some false → sh.length = 1) := by
  cases d with
  | zero => cases h
  | succ d =>
    unfold shapeOf at h
    unfold aggOf
    split at h
    · rename_i hu; rw [hu]; split at h
      · simp at h; subst h; simp
      · cases h
    · rename_i hu; rw [hu]; split at h
      · simp at h; subst h; simp
      · cases h
    · rename_i hu; rw [hu]; simp
    · rename_i hu; rw [hu]; simp
    · cases h

theorem cellsOf_agg {t : TypeId} {A : Value} {as : List Value} (hg : aggOf cx t = some true) (h : CellsOf cx t A as) : ∃ arr : Array Value, A = .agg arr ∧ arr.toList = as := by
  unfold CellsOf at h; rw [hg] at h; exact h
theorem cellsOf_one {t : TypeId} {A : Value} {as : List Value} (hg : aggOf cx t = some false) (h : CellsOf cx t A as) : as = [A] := by
  unfold CellsOf at h; rw [hg] at h; exact h
theorem take_drop_split {α : Type} (l : List α) (off a b : Nat) : (l.drop off).take (a + b) = (l.drop off).take a ++ (l.drop (off + a)).take b := by
  rw [List.take_add, List.drop_drop]

theorem equalIn_fields (hy : Hyp P cx) {d D : Nat} (ih : ∀ (t : TypeId) (sh : List Bool), shapeOf cx d t = some sh → ∀ (A B : Value) (as bs : List Value) (b : Bool) (w : World), CellsOf cx t A as → CellsOf cx t B bs →
      as.length = sh.length → bs.length = sh.length → seqEq sh as bs = some b → (Op.equalIn D t A B).run P w = .ok b w) (xs ys : Array Value) :
    ∀ (fs : List Field) (off : Nat) (l : List Bool), shapeFs (shapeOf cx d) fs off = some l → off + l.length ≤ xs.size → off + l.length ≤ ys.size → ∀ (b : Bool) (w : World),
      seqEq l ((xs.toList.drop off).take l.length) ((ys.toList.drop off).take l.length) = some b → (Op.eqFields D xs ys fs).run P w = .ok b w
  | [], off, l, h, _, _, b, w, e => by
    simp [shapeFs] at h; subst h
    simp [seqEq] at e; subst e
    simp [Op.eqFields]
  | f :: fs, off, l, h, hx, hyy, b, w, e => by
    unfold shapeFs at h
    split at h
    · cases h
    · rename_i hn
      simp at hn
      cases h1 : shapeOf cx d f.type with
      | none => simp [h1] at h
      | some l1 =>
        cases h2 : shapeFs (shapeOf cx d) fs (off + l1.length) with
        | none => simp [h1, h2] at h
        | some l2 =>
          simp [h1, h2] at h; subst h
          simp only [List.length_append] at hx hyy e
          obtain ⟨A, hA1, hA2⟩ := part_cells hy (shape_sz h1) (shape_agg h1).1 (shape_agg h1).2 (arr := xs) (off := off) (by omega) w
          obtain ⟨B, hB1, hB2⟩ := part_cells hy (shape_sz h1) (shape_agg h1).1 (shape_agg h1).2 (arr := ys) (off := off) (by omega) w
          rw [take_drop_split, take_drop_split, seqEq_append (by simp; omega) (by simp; omega)] at e
          have hname : (f.name ≠ "_") = True := eq_true hn.1
          cases hr : seqEq l1 ((xs.toList.drop off).take l1.length) ((ys.toList.drop off).take l1.length) with
          | none => rw [hr] at e; cases e
          | some r =>
            have hE := ih f.type l1 h1 A B _ _ r w hA2 hB2 (by simp; omega) (by simp; omega) hr
            simp only [Op.eqFields, hname, if_true, hn.2, Sem.run_bind, hA1, hB1, Result.andThen_ok, hE]
            cases r with
            | false => rw [hr] at e; simp at e; subst e; simp
            | true =>
              rw [hr] at e
              simpa using equalIn_fields hy ih xs ys fs _ l2 h2 (by omega) (by omega) b w e

theorem equalIn_items (hy : Hyp P cx) {d D : Nat} {el : TypeId} {sh : List Bool} (hsh : shapeOf cx d el = some sh) (ih : ∀ (A B : Value) (as bs : List Value) (b : Bool) (w : World), CellsOf cx el A as → CellsOf cx el B bs →
      as.length = sh.length → bs.length = sh.length → seqEq sh as bs = some b → (Op.equalIn D el A B).run P w = .ok b w) (xs ys : Array Value) :
    ∀ (n i : Nat), i * sh.length + n * sh.length ≤ xs.size → i * sh.length + n * sh.length ≤ ys.size → ∀ (b : Bool) (w : World),
      seqEq ((List.replicate n sh).flatten) ((xs.toList.drop (i * sh.length)).take (n * sh.length)) ((ys.toList.drop (i * sh.length)).take (n * sh.length)) = some b →
      (Op.eqItems D el sh.length xs ys (List.range' i n)).run P w = .ok b w
  | 0, i, _, _, b, w, e => by
    simp [seqEq] at e; subst e
    simp [Op.eqItems]
  | n + 1, i, hx, hyy, b, w, e => by
    have hm : (n + 1) * sh.length = sh.length + n * sh.length := by rw [Nat.succ_mul]; omega
    have hi : (i + 1) * sh.length = i * sh.length + sh.length := Nat.succ_mul _ _
    rw [hm] at hx hyy e
    obtain ⟨A, hA1, hA2⟩ := part_cells hy (shape_sz hsh) (shape_agg hsh).1 (shape_agg hsh).2 (arr := xs) (off := i * sh.length) (by omega) w
    obtain ⟨B, hB1, hB2⟩ := part_cells hy (shape_sz hsh) (shape_agg hsh).1 (shape_agg hsh).2 (arr := ys) (off := i * sh.length) (by omega) w
    rw [List.replicate_succ, List.flatten_cons, take_drop_split, take_drop_split, seqEq_append (by simp; omega) (by simp; omega)] at e
    cases hr : seqEq sh ((xs.toList.drop (i * sh.length)).take sh.length) ((ys.toList.drop (i * sh.length)).take sh.length) with
    | none => rw [hr] at e; cases e
    | some r =>
      have hE := ih A B _ _ r w hA2 hB2 (by simp; omega) (by simp; omega) hr
      simp only [List.range'_succ, Op.eqItems, Sem.run_bind, hA1, hB1, Result.andThen_ok, hE]
      cases r with
      | false => rw [hr] at e; simp at e; subst e; simp
      | true =>
        rw [hr] at e
        rw [← hi] at e
        simpa using equalIn_items hy hsh ih xs ys n (i + 1) (by omega) (by omega) b w e

theorem equalIn_shape (hy : Hyp P cx) : ∀ (d : Nat) (t : TypeId) (sh : List Bool), shapeOf cx d t = some sh → ∀ (A B : Value) (as bs : List Value) (b : Bool) (D : Nat) (w : World), d ≤ D → CellsOf cx t A as → CellsOf cx t B bs →
    as.length = sh.length → bs.length = sh.length → seqEq sh as bs = some b → (Op.equalIn D t A B).run P w = .ok b w := by
  intro d
  induction d with
  | zero => intro t sh h; cases h
  | succ d ih =>
    intro t sh h A B as bs b D w hD hA hB hla hlb e
    obtain ⟨D, rfl⟩ : ∃ m, D = m + 1 := ⟨D - 1, by omega⟩
    unfold shapeOf at h
    split at h
    · rename_i hu
      split at h
      · simp at h; subst h
        have hg : aggOf cx t = some false := by unfold aggOf; rw [hu]
        rw [cellsOf_one hg hA, cellsOf_one hg hB] at e
        simp only [seqEq] at e
        cases hs : scal true A B with
        | none => rw [hs] at e; cases e
        | some r =>
          obtain ⟨a, b', rfl, rfl, rfl⟩ := scal_t hs
          have : b = (a == b') := by rw [hs] at e; cases hab : (a == b') <;> rw [hab] at e <;> simp at e <;> simp [e]
          rw [run_equalIn_bool w D t a b' (und_spec hy hu), this]
      · cases h
    · rename_i hu
      split at h
      · simp at h; subst h
        have hg : aggOf cx t = some false := by unfold aggOf; rw [hu]
        rw [cellsOf_one hg hA, cellsOf_one hg hB] at e
        simp only [seqEq] at e
        cases hs : scal false A B with
        | none => rw [hs] at e; cases e
        | some r =>
          obtain ⟨k, a, b', rfl, rfl, rfl⟩ := scal_f hs
          have : b = (a == b') := by rw [hs] at e; cases hab : (a == b') <;> rw [hab] at e <;> simp at e <;> simp [e]
          rw [run_equalIn_int w D t k _ a b' (und_spec hy hu), this]
      · cases h
    · rename_i fs hu
      split at h
      · rename_i heq
        split at h
        · rename_i l hl
          split at h
          · simp at h; subst h
            have hg : aggOf cx t = some true := by unfold aggOf; rw [hu]
            obtain ⟨xs, rfl, rfl⟩ := cellsOf_agg hg hA
            obtain ⟨ys, rfl, rfl⟩ := cellsOf_agg hg hB
            have hf : P.fieldsOf t = fs := by simp [Program.fieldsOf, und_spec hy hu]
            rw [run_equalIn_struct w D t xs ys (by rw [hf]; exact und_spec hy hu) (hy.eqs t heq).1, hf]
            refine equalIn_fields hy (fun t sh h A B as bs b w h1 h2 h3 h4 h5 => ih t sh h A B as bs b D w (by omega) h1 h2 h3 h4 h5) xs ys fs.toList 0 l hl (by simp at hla; omega) (by simp at hlb; omega) b w ?_
            simp at hla hlb
            rw [List.drop_zero, List.drop_zero, List.take_of_length_le (by simp; omega), List.take_of_length_le (by simp; omega)]; exact e
          · cases h
        · cases h
      · cases h
    · rename_i n el hu
      split at h
      · rename_i l hl
        split at h
        · rename_i hsz
          simp at h hsz; subst h
          have hg : aggOf cx t = some true := by unfold aggOf; rw [hu]
          obtain ⟨xs, rfl, rfl⟩ := cellsOf_agg hg hA
          obtain ⟨ys, rfl, rfl⟩ := cellsOf_agg hg hB
          obtain ⟨ie, hie, hse⟩ := info_of hy hsz.1
          have hc : P.cellsOf el = l.length := by simp [Program.cellsOf, hie, hse]
          simp at hla hlb
          rw [run_equalIn_array w D xs ys (und_spec hy hu) hie, hc, List.range_eq_range']
          refine equalIn_items hy hl (fun A B as bs b w h1 h2 h3 h4 h5 => ih el l hl A B as bs b D w (by omega) h1 h2 h3 h4 h5) xs ys n 0 (by omega) (by omega) b w ?_
          rw [Nat.zero_mul, List.drop_zero, List.drop_zero, List.take_of_length_le (by simp; omega), List.take_of_length_le (by simp; omega)]; exact e
        · cases h
      · cases h
    · cases h

theorem VR.cellsOf {ι : Inj} {t : TypeId} {c : List V} {x : Value} (hg : aggOf cx t = some true) (h : VR σ ι (.agg c) x) : ∃ as, CellsOf cx t x as ∧ VRL σ ι c as := by
  obtain ⟨a, rfl, ha, _⟩ := VR.agg.1 h
  refine ⟨a.toList, ?_, ha⟩
  unfold CellsOf; rw [hg]; exact ⟨a, rfl, rfl⟩

theorem eqLK_some {S : Sy} (hS : SyOk σ P S) {sh : List Bool} {vs ws : List V} {k : Bool → R} {r : V × H} (e : eqLK S sh vs ws k = some r) :
    ∃ b, k b = some r ∧ vs.length = sh.length ∧ ws.length = sh.length ∧ ∀ (ι : Inj) (xs ys : List Value), VRL σ ι vs xs → VRL σ ι ws ys → seqEq sh xs ys = some b := by
  obtain ⟨h1, e⟩ := ifK_some.1 e
  obtain ⟨h2, e⟩ := ifK_some.1 e
  have h1 := Nat.eq_of_beq_eq_true h1
  have h2 := Nat.eq_of_beq_eq_true h2
  simp only [llen_eq] at h1 h2
  obtain ⟨b, e, hb⟩ := eqL_some hS e
  exact ⟨b, e, h1, h2, hb⟩

theorem s_eqa {S : Sy} (hS : SyOk σ P S) (hy : Hyp P cx) {o : Oper} {neg : Bool} {t0 ty : TypeId} {x y : Operand} {x' y' : Opd} {sh : List Bool} (ho : o.op = .binOp (if neg then .neq else .eql) t0 x y ty) (hx : ofOpd x = some x') (hy' : ofOpd y = some y')
    (hsh : shapeOf cx 40 t0 = some sh) (hg : aggOf cx t0 = some true) (he : cx.eqs t0 = true) : Sound cx σ P o (x_eqa S sh neg x' y') := by
  intro t h k r e
  obtain ⟨a, ha, e⟩ := V.onAgg_some e
  obtain ⟨b, hb, e⟩ := V.onAgg_some e
  obtain ⟨q, e, hl1, hl2, hq⟩ := eqLK_some hS e
  refine ⟨_, h, e, OSim.same fun ι w ρ hr hρ => ⟨.bool (if neg then !q else q), ?_, by rw [negIf_eq]; rfl⟩⟩
  have h1 := hρ x x' hx
  have h2 := hρ y y' hy'
  rw [ha] at h1
  rw [hb] at h2
  obtain ⟨as, hA1, hA2⟩ := VR.cellsOf hg h1
  obtain ⟨bs, hB1, hB2⟩ := VR.cellsOf hg h2
  have hE := equalIn_shape hy 40 t0 sh hsh (ρ x) (ρ y) as bs q 10000 w (by omega) hA1 hB1 (by rw [hA2.length, hl1]) (by rw [hB2.length, hl2]) (hq ι as bs hA2 hB2)
  obtain ⟨xs, hxs, rfl⟩ := cellsOf_agg hg hA1
  obtain ⟨ys, hys, rfl⟩ := cellsOf_agg hg hB1
  rw [hxs, hys] at hE
  have hG : ∀ op, (eqGuard op t0 x y (.agg xs) (.agg ys)).run P w = .ok () w := fun op => run_eqGuard_agg w op t0 x y xs ys (hy.eqs t0 he).2
  cases neg
  · simp only [Bool.false_eq_true, if_false] at ho ⊢
    simp only [execOp, ho, hxs, hys, Sem.run_bind, hG, Result.andThen_ok, run_eql_struct, hE, Sem.run_pure]
  · simp only [if_true] at ho ⊢
    simp only [execOp, ho, hxs, hys, Sem.run_bind, hG, Result.andThen_ok, run_neq_struct, hE, Sem.run_pure]

/-- equality of bools, pointers, slices, maps, functions against their nothing -/
theorem eqv_run {o : Oper} {neg : Bool} {t0 ty : TypeId} {x y : Operand} (ho : o.op = .binOp (if neg then .neq else .eql) t0 x y ty) {ρ : Operand → Value} {a b : Value} {q : Bool} {w : World} (ha : ρ x = a) (hb : ρ y = b)
    (hG : ∀ op, eqGuard op t0 x y a b = pure ()) (h1 : binOp .eql t0 a b = (do pure (.bool (← Op.equal t0 a b)))) (h2 : binOp .neq t0 a b = (do pure (.bool (!(← Op.equal t0 a b)))))
    (hE : (Op.equal t0 a b).run P w = .ok q w) : (execOp ρ o).run P w = .ok (.value (.bool (if neg then !q else q))) w := by
  cases neg
  · simp only [Bool.false_eq_true, if_false] at ho ⊢
    simp only [execOp, ho, ha, hb, hG, h1, Sem.run_bind, Sem.run_pure, Result.andThen_ok, hE]
  · simp only [if_true] at ho ⊢
    simp only [execOp, ho, ha, hb, hG, h2, Sem.run_bind, Sem.run_pure, Result.andThen_ok, hE]

def ClsOk (d : TypeDesc) (c : Nat) : Prop := (c = 0 → d = .bool) ∧ (c = 2 → ∃ e, d = .pointer e) ∧ (c = 3 → ∃ e, d = .slice e) ∧ (c = 4 → ∃ a b, d = .map a b) ∧ (c = 5 → ∃ a b v, d = .func a b v)

section eqs
variable (w : World) (D : Nat) {t0 : TypeId}
theorem eq_pp (e : TypeId) (hu : P.underlying t0 = some (.pointer e)) (b : Option Addr) : (Op.equalIn (D + 1) t0 (.pointer none) (.pointer b)).run P w = .ok b.isNone w := by simp [Op.equalIn, run_underlying hu]
theorem eq_pn (e : TypeId) (hu : P.underlying t0 = some (.pointer e)) (a : Addr) : (Op.equalIn (D + 1) t0 (.pointer (some a)) (.pointer none)).run P w = .ok false w := by simp [Op.equalIn, run_underlying hu]
theorem eq_ss (e : TypeId) (hu : P.underlying t0 = some (.slice e)) (b : Option Addr) (n c : Nat) : (Op.equalIn (D + 1) t0 (.slice none 0 0) (.slice b n c)).run P w = .ok b.isNone w := by simp [Op.equalIn, run_underlying hu]
theorem eq_sn (e : TypeId) (hu : P.underlying t0 = some (.slice e)) (a : Addr) (n c : Nat) : (Op.equalIn (D + 1) t0 (.slice (some a) n c) (.slice none 0 0)).run P w = .ok false w := by simp [Op.equalIn, run_underlying hu]
theorem eq_mm (k e : TypeId) (hu : P.underlying t0 = some (.map k e)) (b : Option Nat) : (Op.equalIn (D + 1) t0 (.map none) (.map b)).run P w = .ok b.isNone w := by simp [Op.equalIn, run_underlying hu]
theorem eq_mn (k e : TypeId) (hu : P.underlying t0 = some (.map k e)) (a : Nat) : (Op.equalIn (D + 1) t0 (.map (some a)) (.map none)).run P w = .ok false w := by simp [Op.equalIn, run_underlying hu]
theorem eq_fn (p r : Array TypeId) (v : Bool) (hu : P.underlying t0 = some (.func p r v)) (f : Fn) (a b : Array Value) : (Op.equalIn (D + 1) t0 (.func f a b) .nilFunc).run P w = .ok false w := by simp [Op.equalIn, run_underlying hu]
theorem eq_nf (p r : Array TypeId) (v : Bool) (hu : P.underlying t0 = some (.func p r v)) (f : Fn) (a b : Array Value) : (Op.equalIn (D + 1) t0 .nilFunc (.func f a b)).run P w = .ok false w := by simp [Op.equalIn, run_underlying hu]
theorem eq_nn (p r : Array TypeId) (v : Bool) (hu : P.underlying t0 = some (.func p r v)) : (Op.equalIn (D + 1) t0 .nilFunc .nilFunc).run P w = .ok true w := by simp [Op.equalIn, run_underlying hu]
end eqs

theorem s_eqv (hy : Hyp P cx) {o : Oper} {neg : Bool} {t0 ty : TypeId} {x y : Operand} {x' y' : Opd} {c : Nat} {d : TypeDesc} (ho : o.op = .binOp (if neg then .neq else .eql) t0 x y ty) (hx : ofOpd x = some x') (hy' : ofOpd y = some y')
    (hu : und cx t0 = some d) (hd : ClsOk d c) : Sound cx σ P o (x_eqv c neg x' y') := by
  intro t h k r e
  obtain ⟨hc, e⟩ := ifK_some.1 e
  have hc := Nat.eq_of_beq_eq_true hc
  have hu := und_spec hy hu
  cases hq : eq1 (x'.ev t) (y'.ev t) with
  | none => rw [hq] at e; cases e
  | some q =>
    rw [hq] at e
    refine ⟨_, h, e, OSim.same fun ι w ρ hr hρ => ⟨.bool (if neg then !q else q), ?_, by rw [negIf_eq]; rfl⟩⟩
    have h1 := hρ x x' hx
    have h2 := hρ y y' hy'
    obtain ⟨d0, d2, d3, d4, d5⟩ := hd
    cases hvx : x'.ev t <;> cases hvy : y'.ev t <;> rw [hvx, hvy] at hq <;> simp [eq1] at hq <;> rw [hvx] at h1 hc <;> rw [hvy] at h2 <;> subst hq
    · obtain rfl := d0 hc.symm
      exact eqv_run ho h1 h2 (fun op => eqGuard_at_bool op t0 x y _ _) rfl rfl ((run_equalIn_bool w 9999 t0 _ _ hu).trans (by rw [beqB_eq]))
    · obtain ⟨e, rfl⟩ := d2 hc.symm
      exact eqv_run ho h1 h2 (fun op => eqGuard_at_pointer op t0 x y _ _) rfl rfl (eq_pp w 9999 e hu none)
    · obtain ⟨e, rfl⟩ := d2 hc.symm
      obtain ⟨l, hl, h2⟩ := h2
      exact eqv_run ho h1 h2 (fun op => eqGuard_at_pointer op t0 x y _ _) rfl rfl (eq_pp w 9999 e hu (some _))
    · obtain ⟨e, rfl⟩ := d2 hc.symm
      obtain ⟨l, hl, h1⟩ := h1
      exact eqv_run ho h1 h2 (fun op => eqGuard_at_pointer op t0 x y _ _) rfl rfl (eq_pn w 9999 e hu _)
    · obtain ⟨e, rfl⟩ := d3 hc.symm
      exact eqv_run ho h1 h2 (fun op => eqGuard_at_slice op t0 x y _ _ _ _) rfl rfl (eq_ss w 9999 e hu none 0 0)
    · obtain ⟨e, rfl⟩ := d3 hc.symm
      obtain ⟨l, cc, _, hl, h2, _⟩ := h2
      exact eqv_run ho h1 h2 (fun op => eqGuard_at_slice op t0 x y _ _ _ _) rfl rfl (eq_ss w 9999 e hu (some _) _ _)
    · obtain ⟨e, rfl⟩ := d3 hc.symm
      obtain ⟨l, cc, _, hl, h1, _⟩ := h1
      exact eqv_run ho h1 h2 (fun op => eqGuard_at_slice op t0 x y _ _ _ _) rfl rfl (eq_sn w 9999 e hu _ _ _)
    · obtain ⟨e, f, rfl⟩ := d4 hc.symm
      exact eqv_run ho h1 h2 (fun op => eqGuard_at_map op t0 x y _ _) rfl rfl (eq_mm w 9999 e f hu none)
    · obtain ⟨e, f, rfl⟩ := d4 hc.symm
      obtain ⟨l, hl, h2⟩ := h2
      exact eqv_run ho h1 h2 (fun op => eqGuard_at_map op t0 x y _ _) rfl rfl (eq_mm w 9999 e f hu (some _))
    · obtain ⟨e, f, rfl⟩ := d4 hc.symm
      obtain ⟨l, hl, h1⟩ := h1
      exact eqv_run ho h1 h2 (fun op => eqGuard_at_map op t0 x y _ _) rfl rfl (eq_mn w 9999 e f hu _)
    · obtain ⟨e, f, g, rfl⟩ := d5 hc.symm
      obtain ⟨l, cc, h1, _⟩ := VR.fn.1 h1
      exact eqv_run ho h1 h2 (fun op => eqGuard_at_func op t0 x y _ _ _ _) rfl rfl (eq_fn w 9999 e f g hu _ _ _)
    · obtain ⟨e, f, g, rfl⟩ := d5 hc.symm
      obtain ⟨l, cc, h2, _⟩ := VR.fn.1 h2
      exact eqv_run ho h1 h2 (fun op => eqGuard_at_nilFunc op t0 x y _) rfl rfl (eq_nf w 9999 e f g hu _ _ _)
    · obtain ⟨e, f, g, rfl⟩ := d5 hc.symm
      exact eqv_run ho h1 h2 (fun op => eqGuard_at_nilFunc op t0 x y _) rfl rfl (eq_nn w 9999 e f g hu)
end
end Go.Ab
