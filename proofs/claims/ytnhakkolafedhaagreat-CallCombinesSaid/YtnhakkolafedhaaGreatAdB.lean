/- Symbols whose values lie in given ranges; cases by a tree; a law over plain data. -/
import Derived.Test.YtnhakkolafedhaaGreatAdA
import Derived.OpenShut
set_option linter.unusedVariables false
set_option linter.unusedSimpArgs false
namespace Go.Ab

/-- what is known of a symbol -/
structure Dm where
  lo : Int
  hi : Int
  ne : List Int
  md : List (Int × Int)
def Dm.has (d : Dm) (n : Int) : Prop := d.lo ≤ n ∧ n ≤ d.hi ∧ (∀ c ∈ d.ne, n ≠ c) ∧ ∀ p ∈ d.md, n.tmod p.1 = p.2

noncomputable def dget (l : List Dm) : Nat → Option Dm :=
  List.rec (motive := fun _ => Nat → Option Dm) (fun _ => none) (fun d _ ih n => Nat.rec (motive := fun _ => Option Dm) (some d) (fun m _ => ih m) n) l
theorem dget_eq (l : List Dm) (n : Nat) : dget l n = l[n]? := by
  induction l generalizing n with
  | nil => simp; rfl
  | cons d l ih => cases n with
    | zero => rfl
    | succ n => show dget l n = _; rw [ih]; simp
noncomputable def memI (c : Int) (l : List Int) : Bool := List.rec (motive := fun _ => Bool) false (fun d _ ih => Bool.rec (motive := fun _ => Bool) ih true (ieq c d)) l
theorem memI_iff {c : Int} {l : List Int} (h : memI c l = true) : c ∈ l := by
  induction l with
  | nil => cases h
  | cons d l ih =>
    have h : Bool.rec (motive := fun _ => Bool) (memI c l) true (ieq c d) = true := h
    cases hb : ieq c d with
    | true => rw [ieq_eq] at hb; simp at hb; simp [hb]
    | false => rw [hb] at h; exact List.mem_cons_of_mem _ (ih h)

noncomputable def cmpD (op : BinOp) (d : Dm) (c : Int) : Option Bool := match op with
  | .eql => if ilt c d.lo || ilt d.hi c || memI c d.ne then some false else none
  | .neq => if ilt c d.lo || ilt d.hi c || memI c d.ne then some true else none
  | .lss => if ilt d.hi c then some true else if !ilt d.lo c then some false else none
  | .leq => if !ilt c d.hi then some true else if ilt c d.lo then some false else none
  | .gtr => if ilt c d.lo then some true else if !ilt c d.hi then some false else none
  | .geq => if !ilt d.lo c then some true else if ilt d.hi c then some false else none
  | _ => none
def isCmp (op : BinOp) : Bool := match op with | .eql | .neq | .lss | .leq | .gtr | .geq => true | _ => false
def cmpZ (op : BinOp) (a b : Int) : Bool := match op with
  | .eql => a == b | .neq => a != b | .lss => decide (a < b) | .leq => decide (a ≤ b) | .gtr => decide (a > b) | .geq => decide (a ≥ b) | _ => false
def flipOp (op : BinOp) : BinOp := match op with | .lss => .gtr | .gtr => .lss | .leq => .geq | .geq => .leq | op => op
theorem cmpD_spec {op : BinOp} {d : Dm} {n c : Int} (h : d.has n) {b : Bool} (e : cmpD op d c = some b) : isCmp op = true ∧ cmpZ op n c = b := by
  obtain ⟨h1, h2, h3, _⟩ := h
  have hne : memI c d.ne = true → n ≠ c := fun h => h3 c (memI_iff h)
  cases op <;> simp only [cmpD, ilt_eq] at e <;> (try cases e) <;> refine ⟨rfl, ?_⟩
  · split at e
    · rename_i hc
      cases e
      simp only [Bool.or_eq_true, decide_eq_true_eq] at hc
      simp only [cmpZ, beq_eq_false_iff_ne]
      rcases hc with (hc | hc) | hc
      · omega
      · omega
      · exact hne hc
    · cases e
  · split at e
    · rename_i hc
      cases e
      simp only [Bool.or_eq_true, decide_eq_true_eq] at hc
      simp only [cmpZ, bne_iff_ne]
      rcases hc with (hc | hc) | hc
      · omega
      · omega
      · exact hne hc
    · cases e
  all_goals
    split at e
    · rename_i hc
      cases e
      simp at hc
      simp [cmpZ]; omega
    · split at e
      · rename_i hc
        cases e
        simp at hc
        simp [cmpZ]; omega
      · cases e
theorem flip_spec {op : BinOp} {a b : Int} (h : isCmp op = true) : isCmp (flipOp op) = true ∧ cmpZ (flipOp op) b a = cmpZ op a b := by
  cases op <;> simp [isCmp, flipOp] at h ⊢
  · show (b == a) = (a == b); rw [Bool.eq_iff_iff, beq_iff_eq, beq_iff_eq]; exact ⟨Eq.symm, Eq.symm⟩
  · show (b != a) = (a != b); rw [Bool.eq_iff_iff, bne_iff_ne, bne_iff_ne]; exact ⟨Ne.symm, Ne.symm⟩
  all_goals rfl
theorem isCmp_flip {op : BinOp} (h : isCmp (flipOp op) = true) : isCmp op = true := by cases op <;> simp [isCmp, flipOp] at h ⊢
theorem run_cmp {op : BinOp} (h : isCmp op = true) {k : IntKind} {a b : Int} {P : Program} (t : TypeId) (w : World) : (binOp op t (.int k a) (.int k b)).run P w = .ok (.bool (cmpZ op a b)) w := by
  cases op <;> simp [isCmp] at h <;> simp [binOp, cmpZ, Op.intCmp]

/-- derived symbols: quotients and remainders by constants -/
noncomputable def findD (q : Bool) (c : Int) (l : List (Bool × Int)) : Option Nat :=
  List.rec (motive := fun _ => Option Nat) none (fun d _ ih => Bool.rec (motive := fun _ => Option Nat) (Option.rec (motive := fun _ => Option Nat) none (fun n => some (Nat.succ n)) ih) (some 0) (andB (beqB d.1 q) (ieq d.2 c))) l
theorem findD_spec {q : Bool} {c : Int} {l : List (Bool × Int)} {n : Nat} (h : findD q c l = some n) : l[n]? = some (q, c) := by
  induction l generalizing n with
  | nil => cases h
  | cons d l ih =>
    have h : Bool.rec (motive := fun _ => Option Nat) (Option.rec (motive := fun _ => Option Nat) none (fun n => some (Nat.succ n)) (findD q c l)) (some 0) (andB (beqB d.1 q) (ieq d.2 c)) = some n := h
    cases hb : andB (beqB d.1 q) (ieq d.2 c) with
    | true =>
      rw [hb] at h
      cases h
      obtain ⟨h1, h2⟩ := andB_iff.1 hb
      rw [beqB_eq] at h1; rw [ieq_eq] at h2
      simp at h1 h2
      obtain ⟨d1, d2⟩ := d
      simp at h1 h2
      simp [h1, h2]
    | false =>
      rw [hb] at h
      cases hf : findD q c l with
      | none => rw [hf] at h; cases h
      | some m => rw [hf] at h; cases h; simpa using ih hf
def sigma (xs : Nat → Int) (D : List (Bool × Int)) (n : Nat) : Int := match n / 1000 with
  | 0 => xs n
  | j + 1 => match D[j]? with
    | some (false, c) => IntKind.i64.wrap ((xs (n % 1000)).tdiv c)
    | some (true, c) => (xs (n % 1000)).tmod c
    | none => 0
theorem sigma_low (xs : Nat → Int) (D : List (Bool × Int)) {n : Nat} (h : n < 1000) : sigma xs D n = xs n := by
  unfold sigma; rw [Nat.div_eq_of_lt h]
theorem sigma_d (xs : Nat → Int) (D : List (Bool × Int)) {i j : Nat} (h : i < 1000) : sigma xs D (1000 * (j + 1) + i) = match D[j]? with
    | some (false, c) => IntKind.i64.wrap ((xs i).tdiv c)
    | some (true, c) => (xs i).tmod c
    | none => 0 := by
  unfold sigma
  rw [show (1000 * (j + 1) + i) / 1000 = j + 1 by omega, show (1000 * (j + 1) + i) % 1000 = i by omega]

noncomputable def isI64 (k : IntKind) : Bool := kbeq k .i64
noncomputable def drv (D : List (Bool × Int)) (q : Bool) (j k : IntKind) (i : Nat) (c : Int) : Option V :=
  if isI64 j && isI64 k && ltb i 1000 && !ieq c 0 then (match findD q c D with | some n => some (.sym .i64 (1000 * (n + 1) + i)) | none => none) else none
/-- a remainder that is known -/
noncomputable def mdget (c : Int) (l : List (Int × Int)) : Option Int :=
  List.rec (motive := fun _ => Option Int) none (fun d _ ih => Bool.rec (motive := fun _ => Option Int) ih (some d.2) (ieq c d.1)) l
theorem mdget_mem {c r : Int} {l : List (Int × Int)} (h : mdget c l = some r) : (c, r) ∈ l := by
  induction l with
  | nil => cases h
  | cons d l ih =>
    have h : Bool.rec (motive := fun _ => Option Int) (mdget c l) (some d.2) (ieq c d.1) = some r := h
    cases hb : ieq c d.1 with
    | true =>
      rw [hb] at h
      cases h
      rw [ieq_eq] at hb
      simp at hb
      rw [hb]
      exact List.mem_cons_self
    | false => rw [hb] at h; exact List.mem_cons_of_mem _ (ih h)
noncomputable def modOf (B : List Dm) (i : Nat) (c : Int) : Option Int := match dget B i with | some d => mdget c d.md | none => none
noncomputable def remS (B : List Dm) (D : List (Bool × Int)) (j k : IntKind) (i : Nat) (c : Int) : Option V := match modOf B i c with
  | some r => if kbeq j k && ltb i 1000 && !ieq c 0 then some (.int j r) else none
  | none => drv D true j k i c
noncomputable def cmpS (B : List Dm) (op : BinOp) (i : Nat) (c : Int) : Option V := if ltb i 1000 then (match dget B i with | some d => (match cmpD op d c with | some b => some (.bool b) | none => none) | none => none) else none
noncomputable def symS (op : BinOp) : Option V := match op with | .eql | .leq | .geq => some (.bool true) | .neq | .lss | .gtr => some (.bool false) | _ => none
noncomputable def binB (B : List Dm) (D : List (Bool × Int)) (op : BinOp) (x y : V) : Option V := match x, y with
  | .sym j i, .int k c => match op with
    | .quo => drv D false j k i c
    | .rem => remS B D j k i c
    | op => if kbeq j k then cmpS B op i c else none
  | .int k c, .sym j i => if kbeq j k then cmpS B (flipOp op) i c else none
  | .sym j i, .sym k l => if kbeq j k && Nat.beq i l then symS op else none
  | _, _ => none
noncomputable def convB (B : List Dm) (k : IntKind) (x : V) : Option V := match x with
  | .sym j i => if isI64 k && ltb i 1000 then (match dget B i with
    | some d => if !ilt d.lo (-9223372036854775808) && ilt d.hi 9223372036854775808 then some (.sym .i64 i) else none
    | none => none) else none
  | _ => none
noncomputable def SyB (B : List Dm) (D : List (Bool × Int)) : Sy := ⟨binB B D, convB B⟩

/-- the symbols lie as told -/
def Lies (xs : Nat → Int) (B : List Dm) : Prop := ∀ (i : Nat) (d : Dm), B[i]? = some d → d.has (xs i)

theorem cmpS_spec {xs : Nat → Int} {D : List (Bool × Int)} {B : List Dm} (h : Lies xs B) {op : BinOp} {i : Nat} {c : Int} {v : V} (e : cmpS B op i c = some v) : isCmp op = true ∧ v = .bool (cmpZ op (sigma xs D i) c) := by
  unfold cmpS at e
  split at e
  · rename_i hi
    rw [ltb_iff] at hi
    cases hd : dget B i with
    | none => rw [hd] at e; cases e
    | some d =>
      rw [hd] at e
      simp only at e
      cases hc : cmpD op d c with
      | none => rw [hc] at e; cases e
      | some b =>
        rw [hc] at e
        rw [dget_eq] at hd
        obtain ⟨h1, h2⟩ := cmpD_spec (h i d hd) hc
        rw [sigma_low xs D hi]
        simp at e
        exact ⟨h1, by rw [← e, h2]⟩
  · cases e

theorem drv_spec {xs : Nat → Int} {D : List (Bool × Int)} {P : Program} {q : Bool} {j k : IntKind} {i : Nat} {c : Int} {v : V} (e : drv D q j k i c = some v) (ι : Inj) (t : TypeId) (w : World) :
    ∃ x, (binOp (if q then .rem else .quo) t (.int j (sigma xs D i)) (.int k c)).run P w = .ok x w ∧ ∀ ι, VR (sigma xs D) ι v x := by
  unfold drv at e
  split at e
  · rename_i hc
    simp only [Bool.and_eq_true, Bool.not_eq_true', isI64, kbeq_iff, ltb_iff, ieq_eq, beq_eq_false_iff_ne] at hc
    obtain ⟨⟨⟨rfl, rfl⟩, hi⟩, hz⟩ := hc
    cases hf : findD q c D with
    | none => rw [hf] at e; cases e
    | some n =>
      rw [hf] at e
      simp at e
      subst e
      have hD := findD_spec hf
      rw [sigma_low xs D hi]
      cases q with
      | false =>
        refine ⟨.int .i64 (IntKind.i64.wrap ((xs i).tdiv c)), by simp [binOp, Op.intDiv, hz], fun ι => ?_⟩
        show _ = Value.int .i64 (sigma xs D (1000 * (n + 1) + i))
        rw [sigma_d xs D hi, hD]
      | true =>
        refine ⟨.int .i64 ((xs i).tmod c), by simp [binOp, Op.intDiv, hz], fun ι => ?_⟩
        show _ = Value.int .i64 (sigma xs D (1000 * (n + 1) + i))
        rw [sigma_d xs D hi, hD]
  · cases e

theorem remS_spec {xs : Nat → Int} {D : List (Bool × Int)} {B : List Dm} (h : Lies xs B) {P : Program} {j k : IntKind} {i : Nat} {c : Int} {v : V} (e : remS B D j k i c = some v) (ι : Inj) (t : TypeId) (w : World) :
    ∃ x, (binOp .rem t (.int j (sigma xs D i)) (.int k c)).run P w = .ok x w ∧ ∀ ι, VR (sigma xs D) ι v x := by
  unfold remS at e
  split at e
  · rename_i r hm
    split at e
    · rename_i hc
      simp only [Bool.and_eq_true, Bool.not_eq_true', kbeq_iff, ltb_iff, ieq_eq, beq_eq_false_iff_ne] at hc
      obtain ⟨⟨rfl, hi⟩, hz⟩ := hc
      cases e
      unfold modOf at hm
      cases hd : dget B i with
      | none => rw [hd] at hm; cases hm
      | some d =>
        rw [hd] at hm
        rw [dget_eq] at hd
        have := (h i d hd).2.2.2 _ (mdget_mem hm)
        rw [sigma_low xs D hi]
        exact ⟨.int j ((xs i).tmod c), by simp [binOp, Op.intDiv, hz], fun ι => by rw [this]; rfl⟩
    · cases e
  · exact drv_spec (q := true) e ι t w

theorem syOk {xs : Nat → Int} {D : List (Bool × Int)} {B : List Dm} {P : Program} (h : Lies xs B) : SyOk (sigma xs D) P (SyB B D) where
  bin := by
    intro op x y v hv ι a b ha hb
    replace hv : binB B D op x y = some v := hv
    cases x with
    | sym j i =>
      replace ha : a = .int j (sigma xs D i) := ha
      cases y with
      | int k c =>
        replace hb : b = .int k c := hb
        refine ⟨j, k, _, c, ha, hb, fun t w => ?_⟩
        subst ha hb
        have cmp : (if kbeq j k then cmpS B op i c else none) = some v → ∃ x, (binOp op t (.int j (sigma xs D i)) (.int k c)).run P w = .ok x w ∧ ∀ ι, VR (sigma xs D) ι v x := fun hq => by
          clear hv
          split at hq
          · rename_i hk
            rw [kbeq_iff] at hk; subst hk
            obtain ⟨h1, rfl⟩ := cmpS_spec (D := D) h hq
            exact ⟨_, run_cmp h1 t w, fun _ => rfl⟩
          · cases hq
        cases op <;> first
          | exact drv_spec (q := false) hv ι t w
          | exact remS_spec h hv ι t w
          | exact cmp hv
      | sym k l =>
        replace hv : (if kbeq j k && Nat.beq i l then symS op else none) = some v := hv
        split at hv
        · rename_i hk
          rw [Bool.and_eq_true, kbeq_iff, Nat.beq_eq] at hk
          obtain ⟨rfl, rfl⟩ := hk
          replace hb : b = .int j (sigma xs D i) := hb
          refine ⟨j, j, _, _, ha, hb, fun t w => ?_⟩
          subst ha hb
          cases op <;> first
            | cases hv; done
            | (cases hv; exact ⟨_, run_cmp rfl t w, fun _ => by simp [cmpZ]; rfl⟩)
        · cases hv
      | _ => cases hv
    | int k c =>
      replace ha : a = .int k c := ha
      cases y with
      | sym j i =>
        replace hb : b = .int j (sigma xs D i) := hb
        replace hv : (if kbeq j k then cmpS B (flipOp op) i c else none) = some v := hv
        refine ⟨k, j, c, _, ha, hb, fun t w => ?_⟩
        subst ha hb
        split at hv
        · rename_i hk
          rw [kbeq_iff] at hk; subst hk
          obtain ⟨h1, rfl⟩ := cmpS_spec (D := D) h hv
          have h2 := isCmp_flip h1
          refine ⟨_, run_cmp h2 t w, fun _ => ?_⟩
          rw [(flip_spec h2).2]; rfl
        · cases hv
      | _ => cases hv
    | _ => cases hv
  conv := by
    intro k x v hv ι a ha
    replace hv : convB B k x = some v := hv
    cases x with
    | sym j i =>
      replace hv : (if isI64 k && ltb i 1000 then (match dget B i with
        | some d => if !ilt d.lo (-9223372036854775808) && ilt d.hi 9223372036854775808 then some (V.sym .i64 i) else none
        | none => none) else none) = some v := hv
      split at hv
      · rename_i hc
        rw [Bool.and_eq_true, isI64, kbeq_iff, ltb_iff] at hc
        obtain ⟨rfl, hi⟩ := hc
        cases hd : dget B i with
        | none => rw [hd] at hv; cases hv
        | some d =>
          rw [hd] at hv
          simp only at hv
          split at hv
          · rename_i hc
            rw [Bool.and_eq_true, Bool.not_eq_true', ilt_eq, ilt_eq, decide_eq_false_iff_not, decide_eq_true_eq] at hc
            cases hv
            rw [dget_eq] at hd
            obtain ⟨h1, h2, _⟩ := h i d hd
            refine ⟨j, sigma xs D i, ha, fun ι => ?_⟩
            rw [wrap_i64 (by rw [sigma_low xs D hi]; omega) (by rw [sigma_low xs D hi]; omega)]
            rfl
          · cases hv
      · cases hv
    | _ => cases hv
end Go.Ab
