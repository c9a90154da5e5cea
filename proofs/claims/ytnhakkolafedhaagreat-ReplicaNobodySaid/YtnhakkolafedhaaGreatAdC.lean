/- A law over plain data: cases by a tree, each run by the kernel. -/
import Derived.Test.YtnhakkolafedhaaGreatAdB
set_option linter.unusedVariables false
set_option linter.unusedSimpArgs false
namespace Go.Ab

noncomputable def cellV (k : Option IntKind) (i : Nat) (d : Dm) : V := match k with
  | some k => if ieq d.lo d.hi then .int k d.lo else .sym k i
  | none => .bool (ieq d.lo 1)
noncomputable def cellsV : List (Option IntKind) → Nat → List Dm → List V
  | k :: ks, i, d :: ds => cellV k i d :: cellsV ks (i + 1) ds
  | _, _, _ => []
/-- are the bools told? -/
noncomputable def detV : List (Option IntKind) → List Dm → Bool
  | some _ :: ks, _ :: ds => detV ks ds
  | none :: ks, d :: ds => ieq d.lo d.hi && detV ks ds
  | [], _ => true
  | _ :: _, [] => false

def cellN : Value → Int
  | .int _ n => n
  | .bool true => 1
  | .bool false => 0
  | _ => 0

theorem cell_rel {xs : Nat → Int} {D : List (Bool × Int)} {ι : Inj} {k : Option IntKind} {i : Nat} {d : Dm} {c : Value} (hi : i < 1000) (hc : okCell k c) (hx : xs i = cellN c) (hd : d.has (xs i)) (hb : k = none → d.lo = d.hi) : VR (sigma xs D) ι (cellV k i d) c := by
  obtain ⟨h1, h2, _, _⟩ := hd
  cases k with
  | some k =>
    obtain ⟨n, rfl, _⟩ := hc
    have hx : xs i = n := hx
    unfold cellV
    simp only
    split
    · rename_i he
      rw [ieq_eq] at he
      simp at he
      show Value.int k n = .int k d.lo
      rw [show n = d.lo by omega]
    · show Value.int k n = .int k (sigma xs D i)
      rw [sigma_low xs D hi, hx]
  | none =>
    obtain ⟨b, rfl⟩ := hc
    have he := hb rfl
    show Value.bool b = .bool (ieq d.lo 1)
    rw [ieq_eq]
    cases b with
    | true => have hx : xs i = 1 := hx; have : d.lo = 1 := by omega
              rw [this]; rfl
    | false => have hx : xs i = 0 := hx; have : d.lo = 0 := by omega
               rw [this]; rfl

theorem cells_rel {xs : Nat → Int} {D : List (Bool × Int)} {ι : Inj} : ∀ {ks : List (Option IntKind)} {cs : List Value} {i : Nat} {ds : List Dm}, Cl ks cs → detV ks ds = true → i + ks.length ≤ 1000 → (∀ (j : Nat) (c : Value), cs[j]? = some c → xs (i + j) = cellN c) →
    (∀ (j : Nat) (d : Dm), ds[j]? = some d → d.has (xs (i + j))) → VRL (sigma xs D) ι (cellsV ks i ds) cs
  | [], cs, i, ds, hc, _, _, _, _ => by rw [show cs = [] from hc]; cases ds <;> exact rfl
  | k :: ks, cs, i, [], hc, hdet, _, _, _ => by cases k <;> cases hdet
  | k :: ks, cs, i, d :: ds, hc, hdet, hi, hx, hd => by
    obtain ⟨c, cs', rfl, h1, h2⟩ := hc
    simp only [List.length_cons] at hi
    refine ⟨c, cs', rfl, cell_rel (by omega) h1 (by simpa using hx 0 c (by simp)) (by simpa using hd 0 d (by simp)) (fun hk => ?_), cells_rel h2 ?_ (by omega) (fun j c hj => ?_) (fun j d hj => ?_)⟩
    · subst hk
      have : (ieq d.lo d.hi && detV ks ds) = true := hdet
      rw [Bool.and_eq_true, ieq_eq] at this
      simpa using this.1
    · cases k with
      | some k => exact hdet
      | none =>
        have : (ieq d.lo d.hi && detV ks ds) = true := hdet
        rw [Bool.and_eq_true] at this; exact this.2
    · have := hx (j + 1) c (by simpa using hj); rwa [show i + 1 + j = i + (j + 1) by omega]
    · have := hd (j + 1) d (by simpa using hj); rwa [show i + 1 + j = i + (j + 1) by omega]

theorem cellsV_one {xs : Nat → Int} {D : List (Bool × Int)} : ∀ {ks : List (Option IntKind)} {i : Nat} {ds : List Dm}, ∀ v ∈ cellsV ks i ds, v.one = true
  | [], i, ds, v, h => by cases ds <;> cases h
  | k :: ks, i, [], v, h => by cases h
  | k :: ks, i, d :: ds, v, h => by
    rcases List.mem_cons.1 h with rfl | h
    · unfold cellV; cases k with
      | none => rfl
      | some k => simp only; split <;> rfl
    · exact cellsV_one (xs := xs) (D := D) v h

/-- the arguments' shapes: a struct's or an array's cells, or one cell -/
abbrev Sh := List (Bool × List (Option IntKind))
noncomputable def mkArgs : Sh → Nat → List Dm → List V
  | [], _, _ => []
  | (ag, ks) :: sh, i, ds => (Bool.rec (motive := fun _ => V) (match cellsV ks i ds with | v :: _ => v | [] => .tup []) (.agg (cellsV ks i ds)) ag) :: mkArgs sh (i + ks.length) (ds.drop ks.length)
noncomputable def detA : Sh → List Dm → Bool
  | [], _ => true
  | (_, ks) :: sh, ds => detV ks ds && detA sh (ds.drop ks.length)
def ArgOk : Bool × List (Option IntKind) → Value → Prop
  | (true, ks), v => ∃ cs : Array Value, v = .agg cs ∧ Cl ks cs.toList
  | (false, ks), v => Cl ks [v]
def ArgsOk : Sh → List Value → Prop
  | [], vs => vs = []
  | a :: sh, vs => ∃ v vs', vs = v :: vs' ∧ ArgOk a v ∧ ArgsOk sh vs'
def argCells : Bool × List (Option IntKind) → Value → List Value
  | (true, _), .agg cs => cs.toList
  | (_, _), v => [v]
def allCells : Sh → List Value → List Value
  | a :: sh, v :: vs => argCells a v ++ allCells sh vs
  | _, _ => []
def total (sh : Sh) : Nat := (sh.map fun a => a.2.length).sum

theorem argCells_cl {a : Bool × List (Option IntKind)} {v : Value} (h : ArgOk a v) : Cl a.2 (argCells a v) := by
  obtain ⟨ag, ks⟩ := a
  cases ag with
  | true => obtain ⟨cs, rfl, h⟩ := h; exact h
  | false => cases v <;> exact h
theorem allCells_cl : ∀ {sh : Sh} {vs : List Value}, ArgsOk sh vs → Cl (sh.flatMap (·.2)) (allCells sh vs)
  | [], vs, h => by rw [show vs = [] from h]; rfl
  | a :: sh, vs, ⟨v, vs', e, h1, h2⟩ => by
    subst e
    show Cl (a.2 ++ sh.flatMap (·.2)) (argCells a v ++ allCells sh vs')
    exact (argCells_cl h1).append (allCells_cl h2)

theorem args_rel {xs : Nat → Int} {D : List (Bool × Int)} {ι : Inj} : ∀ {sh : Sh} {vs : List Value} {i : Nat} {ds : List Dm}, ArgsOk sh vs → detA sh ds = true → i + total sh ≤ 1000 → (∀ (j : Nat) (c : Value), (allCells sh vs)[j]? = some c → xs (i + j) = cellN c) →
    (∀ (j : Nat) (d : Dm), ds[j]? = some d → d.has (xs (i + j))) → VRL (sigma xs D) ι (mkArgs sh i ds) vs
  | [], vs, i, ds, h, _, _, _, _ => by rw [show vs = [] from h]; exact rfl
  | (ag, ks) :: sh, vs, i, ds, h, hdet, hi, hx, hd => by
    obtain ⟨v, vs', rfl, h1, h2⟩ := h
    have hdet : (detV ks ds && detA sh (ds.drop ks.length)) = true := hdet
    rw [Bool.and_eq_true] at hdet
    have hi : i + (ks.length + total sh) ≤ 1000 := hi
    have hlen : (argCells (ag, ks) v).length = ks.length := (argCells_cl h1).length
    have hall : allCells ((ag, ks) :: sh) (v :: vs') = argCells (ag, ks) v ++ allCells sh vs' := rfl
    have hc := cells_rel (D := D) (ι := ι) (i := i) (argCells_cl h1) hdet.1 (by show i + ks.length ≤ 1000; omega) (fun j c hj => hx j c (by
      have := (List.getElem?_eq_some_iff.1 hj).1
      rw [hall, List.getElem?_append_left this]; exact hj)) hd
    refine ⟨v, vs', rfl, ?_, args_rel h2 hdet.2 (by omega) (fun j c hj => ?_) (fun j d hj => ?_)⟩
    · cases ag with
      | true =>
        obtain ⟨cs, rfl, _⟩ := h1
        exact VR.agg.2 ⟨cs, rfl, hc, cellsV_one (xs := xs) (D := D)⟩
      | false =>
        have hc : VRL (sigma xs D) ι (cellsV ks i ds) [v] := by cases v <;> exact hc
        show VR _ _ (match cellsV ks i ds with | v :: _ => v | [] => .tup []) v
        cases hcv : cellsV ks i ds with
        | nil => rw [hcv] at hc; cases (VRL.nil.1 hc)
        | cons u us => rw [hcv] at hc; obtain ⟨w, ws, e, h3, _⟩ := hc; cases e; exact h3
    · have := hx (ks.length + j) c (by rw [hall, List.getElem?_append_right (by omega), hlen, Nat.add_sub_cancel_left]; exact hj)
      rwa [show i + ks.length + j = i + (ks.length + j) by omega]
    · have := hd (ks.length + j) d (by rw [List.getElem?_drop] at hj; exact hj)
      rwa [show i + ks.length + j = i + (ks.length + j) by omega]

/-! ### cases -/
inductive Tree where
  | run
  | eq (i : Nat) (c : Int) (a b : Tree)
  | lt (i : Nat) (c : Int) (a b : Tree)
  | md (i c : Nat) (f : Nat → Tree)
noncomputable def dset (i : Nat) (f : Dm → Dm) (l : List Dm) : List Dm := match i, l with
  | 0, d :: ds => f d :: ds
  | i + 1, d :: ds => d :: dset i f ds
  | _, [] => []
noncomputable def eqD (i : Nat) (c : Int) (l : List Dm) : List Dm := dset i (fun _ => ⟨c, c, [], []⟩) l
noncomputable def neD (i : Nat) (c : Int) (l : List Dm) : List Dm := dset i (fun d => ⟨d.lo, d.hi, c :: d.ne, d.md⟩) l
noncomputable def hiD (i : Nat) (c : Int) (l : List Dm) : List Dm := dset i (fun d => ⟨d.lo, if ilt (c - 1) d.hi then c - 1 else d.hi, d.ne, d.md⟩) l
noncomputable def loD (i : Nat) (c : Int) (l : List Dm) : List Dm := dset i (fun d => ⟨if ilt d.lo c then c else d.lo, d.hi, d.ne, d.md⟩) l
noncomputable def mdD (i c r : Nat) (l : List Dm) : List Dm := dset i (fun d => ⟨d.lo, d.hi, d.ne, (Int.ofNat c, Int.ofNat r) :: d.md⟩) l
noncomputable def nnD (i : Nat) (l : List Dm) : Bool := match dget l i with | some d => !ilt d.lo 0 | none => false
noncomputable def allN (f : Nat → Bool) (n : Nat) : Bool := Nat.rec (motive := fun _ => Bool) true (fun r ih => f r && ih) n
theorem allN_iff {f : Nat → Bool} {n : Nat} : allN f n = true ↔ ∀ r, r < n → f r = true := by
  induction n with
  | zero => exact ⟨fun _ r h => absurd h (by omega), fun _ => rfl⟩
  | succ n ih =>
    show (f n && allN f n) = true ↔ _
    rw [Bool.and_eq_true, ih]
    exact ⟨fun h r hr => by
      by_cases e : r = n
      · rw [e]; exact h.1
      · exact h.2 r (by omega), fun h => ⟨h n (by omega), fun r hr => h r (by omega)⟩⟩
noncomputable def evalT (chk : List Dm → Bool) : Tree → List Dm → Bool
  | .run, ds => chk ds
  | .eq i c a b, ds => evalT chk a (eqD i c ds) && evalT chk b (neD i c ds)
  | .lt i c a b, ds => evalT chk a (hiD i c ds) && evalT chk b (loD i c ds)
  | .md i c f, ds => nnD i ds && ltb 0 c && allN (fun r => evalT chk (f r) (mdD i c r ds)) c

theorem dset_lies {xs : Nat → Int} {f : Dm → Dm} : ∀ {ds : List Dm} {i : Nat} {k : Nat}, (∀ (j : Nat) (d : Dm), ds[j]? = some d → d.has (xs (k + j))) → (∀ d : Dm, d.has (xs (k + i)) → (f d).has (xs (k + i))) → ∀ (j : Nat) (d : Dm), (dset i f ds)[j]? = some d → d.has (xs (k + j))
  | [], i, k, _, _, j, d, e => by cases i <;> simp [dset] at e
  | x :: ds, 0, k, h, hf, j, d, e => by
    cases j with
    | zero => simp [dset] at e; subst e; exact hf x (h 0 x (by simp))
    | succ j => simp [dset] at e; exact h (j + 1) d (by simpa using e)
  | x :: ds, i + 1, k, h, hf, j, d, e => by
    cases j with
    | zero => simp [dset] at e; subst e; exact h 0 x (by simp)
    | succ j =>
      simp [dset] at e
      have := dset_lies (ds := ds) (i := i) (k := k + 1) (fun j d hj => by have := h (j + 1) d (by simpa using hj); rwa [show k + 1 + j = k + (j + 1) by omega]) (fun d hd => by
        rw [show k + 1 + i = k + (i + 1) by omega] at hd ⊢; exact hf d hd) j d e
      rwa [show k + (j + 1) = k + 1 + j by omega]

theorem evalT_eq {chk : List Dm → Bool} {i : Nat} {c : Int} {a b : Tree} {ds : List Dm} (h1 : evalT chk a (eqD i c ds) = true) (h2 : evalT chk b (neD i c ds) = true) : evalT chk (.eq i c a b) ds = true := by
  unfold evalT; rw [Bool.and_eq_true]; exact ⟨h1, h2⟩
theorem evalT_lt {chk : List Dm → Bool} {i : Nat} {c : Int} {a b : Tree} {ds : List Dm} (h1 : evalT chk a (hiD i c ds) = true) (h2 : evalT chk b (loD i c ds) = true) : evalT chk (.lt i c a b) ds = true := by
  unfold evalT; rw [Bool.and_eq_true]; exact ⟨h1, h2⟩
theorem evalT_md {chk : List Dm → Bool} {i c : Nat} {f : Nat → Tree} {ds : List Dm} (h0 : (nnD i ds && ltb 0 c) = true) (h : ∀ r, r < c → evalT chk (f r) (mdD i c r ds) = true) : evalT chk (.md i c f) ds = true := by
  unfold evalT; rw [Bool.and_eq_true]; exact ⟨h0, allN_iff.2 h⟩
theorem evalT_lies {xs : Nat → Int} {chk : List Dm → Bool} : ∀ (t : Tree) (ds : List Dm), evalT chk t ds = true → Lies xs ds → ∃ ds', chk ds' = true ∧ Lies xs ds'
  | .run, ds, h, hl => ⟨ds, h, hl⟩
  | .eq i c a b, ds, h, hl => by
    unfold evalT at h
    rw [Bool.and_eq_true] at h
    by_cases e : xs i = c
    · refine evalT_lies a _ h.1 fun j d hj => ?_
      have := dset_lies (xs := xs) (k := 0) (i := i) (f := fun _ => ⟨c, c, [], []⟩) (by simpa [Lies] using hl) (fun d _ => ⟨by simp [e], by simp [e], by simp, by simp⟩) j d hj
      simpa using this
    · refine evalT_lies b _ h.2 fun j d hj => ?_
      have := dset_lies (xs := xs) (k := 0) (i := i) (f := fun d => ⟨d.lo, d.hi, c :: d.ne, d.md⟩) (by simpa [Lies] using hl) (fun d hd => ⟨hd.1, hd.2.1, fun x hx => by
        rcases List.mem_cons.1 hx with rfl | hx
        · simpa using e
        · exact hd.2.2.1 x hx, hd.2.2.2⟩) j d hj
      simpa using this
  | .lt i c a b, ds, h, hl => by
    unfold evalT at h
    rw [Bool.and_eq_true] at h
    by_cases e : xs i < c
    · refine evalT_lies a _ h.1 fun j d hj => ?_
      have := dset_lies (xs := xs) (k := 0) (i := i) (f := fun d => ⟨d.lo, if ilt (c - 1) d.hi then c - 1 else d.hi, d.ne, d.md⟩) (by simpa [Lies] using hl) (fun d hd => ⟨hd.1, by
        have := hd.2.1
        simp only [Nat.zero_add] at this ⊢
        split <;> omega, hd.2.2⟩) j d hj
      simpa using this
    · refine evalT_lies b _ h.2 fun j d hj => ?_
      have := dset_lies (xs := xs) (k := 0) (i := i) (f := fun d => ⟨if ilt d.lo c then c else d.lo, d.hi, d.ne, d.md⟩) (by simpa [Lies] using hl) (fun d hd => ⟨by
        have := hd.1
        simp only [Nat.zero_add] at this ⊢
        split <;> omega, hd.2.1, hd.2.2⟩) j d hj
      simpa using this
  | .md i c f, ds, h, hl => by
    unfold evalT at h
    rw [Bool.and_eq_true, Bool.and_eq_true] at h
    obtain ⟨⟨h0, hc⟩, h⟩ := h
    rw [ltb_iff] at hc
    unfold nnD at h0
    cases hd : dget ds i with
    | none => rw [hd] at h0; cases h0
    | some d =>
      rw [hd] at h0
      rw [dget_eq] at hd
      have hlo := (hl i d hd).1
      simp only [ilt_eq, Bool.not_eq_true', decide_eq_false_iff_not] at h0
      have hr : 0 ≤ (xs i).tmod c := Int.tmod_nonneg _ (by omega)
      have hr2 : (xs i).tmod c < c := Int.tmod_lt_of_pos _ (by omega)
      refine evalT_lies (f ((xs i).tmod c).toNat) _ (allN_iff.1 h _ (by omega)) fun j d hj => ?_
      have := dset_lies (xs := xs) (k := 0) (i := i) (f := fun d => ⟨d.lo, d.hi, d.ne, (Int.ofNat c, Int.ofNat ((xs i).tmod c).toNat) :: d.md⟩) (by simpa [Lies] using hl) (fun d hd => ⟨hd.1, hd.2.1, hd.2.2.1, fun p hp => by
        rcases List.mem_cons.1 hp with rfl | hp
        · simp only [Nat.zero_add, Int.ofNat_eq_natCast]; omega
        · exact hd.2.2.2 p hp⟩) j d hj
      simpa using this

/-- where the cells of a kind lie -/
def dom0 : Option IntKind → Dm
  | none => ⟨0, 1, [], []⟩
  | some .i8 => ⟨-128, 127, [], []⟩
  | some .i16 => ⟨-32768, 32767, [], []⟩
  | some .i32 => ⟨-2147483648, 2147483647, [], []⟩
  | some .i64 => ⟨-9223372036854775808, 9223372036854775807, [], []⟩
  | some .u8 => ⟨0, 255, [], []⟩
  | some .u16 => ⟨0, 65535, [], []⟩
  | some .u32 => ⟨0, 4294967295, [], []⟩
  | some .u64 => ⟨0, 18446744073709551615, [], []⟩
theorem dom0_has {k : Option IntKind} {c : Value} (h : okCell k c) : (dom0 k).has (cellN c) := by
  cases k with
  | none => obtain ⟨b, rfl⟩ := h; cases b <;> exact ⟨by decide, by decide, by simp [dom0], by simp [dom0]⟩
  | some k =>
    obtain ⟨n, rfl, hw⟩ := h
    show (dom0 (some k)).has n
    cases k
    · have := bounds_i8 hw; exact ⟨this.1, this.2, by simp [dom0], by simp [dom0]⟩
    · have := bounds_i16 hw; exact ⟨this.1, this.2, by simp [dom0], by simp [dom0]⟩
    · have := bounds_i32 hw; exact ⟨this.1, this.2, by simp [dom0], by simp [dom0]⟩
    · have := bounds_i64 hw; exact ⟨this.1, this.2, by simp [dom0], by simp [dom0]⟩
    · have := bounds_u8 hw; exact ⟨this.1, this.2, by simp [dom0], by simp [dom0]⟩
    · have := bounds_u16 hw; exact ⟨this.1, this.2, by simp [dom0], by simp [dom0]⟩
    · have := bounds_u32 hw; exact ⟨this.1, this.2, by simp [dom0], by simp [dom0]⟩
    · have := bounds_u64 hw; exact ⟨this.1, this.2, by simp [dom0], by simp [dom0]⟩
theorem dom0_lies : ∀ {ks : List (Option IntKind)} {cs : List Value} (j : Nat) (d : Dm), Cl ks cs → (ks.map dom0)[j]? = some d → ∃ c, cs[j]? = some c ∧ d.has (cellN c)
  | [], cs, j, d, _, e => by simp at e
  | k :: ks, cs, j, d, ⟨c, cs', e0, h1, h2⟩, e => by
    subst e0
    cases j with
    | zero => simp at e; subst e; exact ⟨c, by simp, dom0_has h1⟩
    | succ j => simpa using dom0_lies j d h2 (by simpa using e)

noncomputable def isTrue (r : R) : Bool := match r with | some (.bool true, _) => true | _ => false
noncomputable def h0 : H := .mk (.s .k0 .k0 .k0) .nil

/-- one leaf -/
noncomputable def leaf (orc : Orc) (tab : Tr IFn) (n f : Nat) (sh : Sh) (D : List (Bool × Int)) (ds : List Dm) : Bool :=
  detA sh ds && isTrue ((env (SyB ds D) orc tab n).callV (.fn f [] []) (mkArgs sh 0 ds) h0 fun v h => some (v, h))

theorem rel_none {cx : Cx} {σ : Nat → Int} {w : World} (h : H) : Rel cx σ (fun _ => none) h w := ⟨fun _ _ h => (by cases h), fun _ _ _ _ h => (by cases h), fun _ _ _ h => (by cases h)⟩

/-- A LAW: wherever the tree's leaves run through, the law returns true, and the memory has blocks more alone. -/
theorem law_true {P : Program} {cx : Cx} {orc : Orc} {tab : Tr IFn} (hy : Hyp P cx) (hm : P.follows .mixedOrders = true) (hon : OrcNat orc) (hoo : ∀ σ, OrcOk P cx σ orc) (htab : TabOk P cx tab) (n f : Nat) (sh : Sh) (D : List (Bool × Int)) (hsz : total sh ≤ 1000)
    (t : Tree) (hrun : evalT (leaf orc tab n f sh D) t ((sh.flatMap (·.2)).map dom0) = true) (vs : Array Value) (hvs : ArgsOk sh vs.toList) (w : World) :
    Calls P f vs w fun e w' => e = .returned (.bool true) ∧ w'.os = w.os ∧ w'.output = w.output ∧ w'.tape = w.tape ∧ ∀ (B : Nat) (o : Obj), w.heap[B]? = some o → w'.heap[B]? = some o := by
  let xs : Nat → Int := fun i => cellN ((allCells sh vs.toList).getD i undef)
  have hxs : ∀ (j : Nat) (c : Value), (allCells sh vs.toList)[j]? = some c → xs j = cellN c := fun j c hj => by simp [xs, hj]
  have hlies : Lies xs ((sh.flatMap (·.2)).map dom0) := fun j d hj => by
    obtain ⟨c, h1, h2⟩ := dom0_lies j d (allCells_cl hvs) hj
    rw [hxs j c h1]; exact h2
  obtain ⟨ds, hleaf, hl⟩ := evalT_lies t _ hrun hlies
  unfold leaf at hleaf
  rw [Bool.and_eq_true] at hleaf
  obtain ⟨hdet, htrue⟩ := hleaf
  cases hr : (env (SyB ds D) orc tab n).callV (.fn f [] []) (mkArgs sh 0 ds) h0 (fun v h => some (v, h)) with
  | none => rw [hr] at htrue; cases htrue
  | some vh =>
    obtain ⟨v, h'⟩ := vh
    rw [hr] at htrue
    have hv : v = .bool true := by
      cases v with
      | bool b => cases b; cases htrue; rfl
      | _ => cases htrue
    subst hv
    have := run_law (syOk (D := D) (P := P) hl) hy hm hon (hoo _) htab n hr (rel_none (w := w) h0) (args_rel (D := D) (i := 0) (ι := fun _ => none) hvs hdet (by simpa using hsz) (fun j c hj => by simpa using hxs j c hj) (fun j d hj => by simpa using hl j d hj))
    refine callsIn_wide.1 (CallsIn.mono this ?_)
    rintro e w' ⟨v', ι', rfl, hv', hr', he⟩
    refine ⟨by rw [VR.bool.1 hv'], he.os, he.out, he.tape, fun B o hB => he.keepW B o hB (fun _ _ h => by cases h)⟩
end Go.Ab
