/- Places, tries; how abstract values and heaps stand for real ones; what a run may change. -/
import Derived.Test.YtamnjjfnadnecaaAbA
import Derived.RangeFuncLeaves
import Derived.OrdersIn
set_option linter.unusedVariables false
set_option linter.unusedSimpArgs false
namespace Go.Ab

/-! ### places -/
noncomputable def Pos.toNat (p : Pos) : Nat := Pos.rec 1 (fun _ n => 2 * n) (fun _ n => 2 * n + 1) p
@[simp] theorem Pos.toNat_one : Pos.one.toNat = 1 := rfl
@[simp] theorem Pos.toNat_o (p : Pos) : (Pos.o p).toNat = 2 * p.toNat := rfl
@[simp] theorem Pos.toNat_i (p : Pos) : (Pos.i p).toNat = 2 * p.toNat + 1 := rfl
theorem Pos.toNat_pos (p : Pos) : 1 ≤ p.toNat := by induction p <;> simp <;> omega
theorem Pos.toNat_succ (p : Pos) : p.succ.toNat = p.toNat + 1 := by
  induction p with
  | one => rfl
  | o p _ => rfl
  | i p ih => show (Pos.o p.succ).toNat = _; simp [ih]; omega
theorem Pos.toNat_inj {p q : Pos} (h : p.toNat = q.toNat) : p = q := by
  induction p generalizing q with
  | one => cases q with
    | one => rfl
    | o q => have := q.toNat_pos; simp at h; omega
    | i q => have := q.toNat_pos; simp at h; omega
  | o p ih => cases q with
    | one => have := p.toNat_pos; simp at h; omega
    | o q => simp only [toNat_o] at h; rw [ih (q := q) (by omega)]
    | i q => simp at h; omega
  | i p ih => cases q with
    | one => have := p.toNat_pos; simp at h; omega
    | o q => simp at h; omega
    | i q => simp only [toNat_i] at h; rw [ih (q := q) (by omega)]

theorem Pos.toNat_go (f : Nat) : ∀ n, 1 ≤ n → n ≤ f → (Pos.go f n).toNat = n := by
  induction f with
  | zero => intro n h1 h2; omega
  | succ f ih =>
    intro n h1 h2
    show (Bool.rec (motive := fun _ => Pos) (Nat.rec (motive := fun _ => Pos) (.o (Pos.go f (Nat.div n 2))) (fun _ _ => .i (Pos.go f (Nat.div n 2))) (Nat.mod n 2)) .one (Nat.ble n 1) : Pos).toNat = n
    by_cases hn : n ≤ 1
    · have : Nat.ble n 1 = true := by rw [Nat.ble_eq]; exact hn
      rw [this]; show 1 = n; omega
    · have hb : Nat.ble n 1 = false := by
        cases hb : Nat.ble n 1 with
        | false => rfl
        | true => rw [Nat.ble_eq] at hb; exact absurd hb hn
      rw [hb]
      have hd : Nat.div n 2 = n / 2 := rfl
      have hm : Nat.mod n 2 = n % 2 := rfl
      have := ih (n / 2) (by omega) (by omega)
      rw [hd, hm]
      rcases Nat.mod_two_eq_zero_or_one n with h | h
      · rw [h]; show 2 * (Pos.go f (n / 2)).toNat = n; rw [this]; omega
      · rw [h]; show 2 * (Pos.go f (n / 2)).toNat + 1 = n; rw [this]; omega
theorem Pos.toNat_of (n : Nat) : (Pos.of n).toNat = n + 1 := Pos.toNat_go _ _ (by omega) (by omega)
theorem Pos.of_inj {m n : Nat} (h : Pos.of m = Pos.of n) : m = n := by
  have := congrArg Pos.toNat h; simp [Pos.toNat_of] at this; exact this
theorem Pos.of_ne {m n : Nat} (h : m ≠ n) : Pos.of m ≠ Pos.of n := fun e => h (Pos.of_inj e)

/-! ### tries -/
section
variable {α : Type}
@[simp] theorem Tr.get_nil (p : Pos) : (Tr.nil : Tr α).get p = none := rfl
@[simp] theorem Tr.get_one (v : Option α) (l r : Tr α) : (Tr.node v l r).get .one = v := rfl
@[simp] theorem Tr.get_o (v : Option α) (l r : Tr α) (p : Pos) : (Tr.node v l r).get (.o p) = l.get p := rfl
@[simp] theorem Tr.get_i (v : Option α) (l r : Tr α) (p : Pos) : (Tr.node v l r).get (.i p) = r.get p := rfl
theorem Tr.get_put_same (p : Pos) (x : α) : ∀ t : Tr α, (Tr.put p x t).get p = some x := by
  induction p with
  | one => intro t; cases t <;> rfl
  | o p ih => intro t; cases t with
    | nil => exact ih .nil
    | node v l r => exact ih l
  | i p ih => intro t; cases t with
    | nil => exact ih .nil
    | node v l r => exact ih r
theorem Tr.get_put_ne (p : Pos) (x : α) : ∀ (t : Tr α) (q : Pos), q ≠ p → (Tr.put p x t).get q = t.get q := by
  induction p with
  | one => intro t q h; cases t <;> cases q <;> first | exact absurd rfl h | rfl
  | o p ih => intro t q h; cases t with
    | nil => cases q with
      | one => rfl
      | o q => exact ih .nil q (fun e => h (by rw [e]))
      | i q => rfl
    | node v l r => cases q with
      | one => rfl
      | o q => exact ih l q (fun e => h (by rw [e]))
      | i q => rfl
  | i p ih => intro t q h; cases t with
    | nil => cases q with
      | one => rfl
      | o q => rfl
      | i q => exact ih .nil q (fun e => h (by rw [e]))
    | node v l r => cases q with
      | one => rfl
      | o q => rfl
      | i q => exact ih r q (fun e => h (by rw [e]))
end

/-! ### heaps -/
noncomputable def H.get (h : H) (b : Pos) : Option O := H.rec (motive := fun _ => Option O) (fun _ m => m.get b) h
noncomputable def H.nx (h : H) : Pos := H.rec (motive := fun _ => Pos) (fun nx _ => nx) h
theorem H.get_put_same (h : H) (b : Pos) (o : O) : (h.put b o).get b = some o := by cases h; exact Tr.get_put_same _ _ _
theorem H.get_put_ne (h : H) (b q : Pos) (o : O) (hq : q ≠ b) : (h.put b o).get q = h.get q := by cases h; exact Tr.get_put_ne _ _ _ _ hq
@[simp] theorem H.nx_put (h : H) (b : Pos) (o : O) : (h.put b o).nx = h.nx := by cases h; rfl
noncomputable def H.push (h : H) (o : O) : H := H.rec (motive := fun _ => H) (fun nx m => .mk nx.succ (Tr.put nx o m)) h
theorem H.alloc_eq (h : H) (o : O) (k : Pos → H → R) : h.alloc o k = k h.nx (h.push o) := by cases h; rfl
@[simp] theorem H.nx_push (h : H) (o : O) : (h.push o).nx = h.nx.succ := by cases h; rfl
theorem H.get_push_same (h : H) (o : O) : (h.push o).get h.nx = some o := by cases h; exact Tr.get_put_same _ _ _
theorem H.get_push_ne (h : H) (o : O) (q : Pos) (hq : q ≠ h.nx) : (h.push o).get q = h.get q := by cases h; exact Tr.get_put_ne _ _ _ _ hq

/-! ### what stands for what -/
/-- where an abstract block lies: from cell 'off' of a real block on, 'sz' cells of which are its -/
structure Loc where
  blk : Nat
  off : Nat
  sz : Nat

abbrev Inj := Pos → Option Loc

variable (σ : Nat → Int)

noncomputable def VRL' (VR : V → Value → Prop) (vs : List V) : List Value → Prop :=
  List.rec (motive := fun _ => List Value → Prop) (fun ws => ws = []) (fun v _ ih ws => ∃ w ws', ws = w :: ws' ∧ VR v w ∧ ih ws') vs

noncomputable def VR (ι : Inj) (v : V) : Value → Prop :=
  V.rec (motive_1 := fun _ => Value → Prop) (motive_2 := fun _ => List Value → Prop)
    (fun b w => w = .bool b) (fun k n w => w = .int k n) (fun s w => w = .string s) (fun k i w => w = .int k (σ i))
    (fun w => w = .pointer none) (fun b o w => ∃ l, ι b = some l ∧ w = .pointer (some ⟨l.blk, l.off + o, none⟩))
    (fun w => w = .slice none 0 0)
    (fun b o len cap fx w => ∃ l c, ι b = some l ∧ w = .slice (some ⟨l.blk, l.off + o, none⟩) len c ∧ cap ≤ c ∧ (fx = none → c = cap) ∧ ∀ e, fx = some e → o + c * e ≤ l.sz)
    (fun w => w = .map none) (fun r w => ∃ l, ι r = some l ∧ w = .map (some l.blk))
    (fun f _ _ ih1 ih2 w => ∃ a b : Array Value, w = .func (.func f) a b ∧ ih1 a.toList ∧ ih2 b.toList)
    (fun r w => ∃ l, ι r = some l ∧ w = .func (.yield l.blk) #[] #[])
    (fun w => w = .nilFunc)
    (fun c ih w => ∃ a : Array Value, w = .agg a ∧ ih a.toList ∧ ∀ v ∈ c, v.one = true) (fun _ ih w => ∃ a : Array Value, w = .tuple a ∧ ih a.toList)
    (fun ws => ws = []) (fun _ _ ihv ihl ws => ∃ w ws', ws = w :: ws' ∧ ihv w ∧ ihl ws') v

abbrev VRL (ι : Inj) : List V → List Value → Prop := VRL' (VR σ ι)

section vr
variable {σ : Nat → Int} {ι : Inj} {w : Value}
theorem VRL.eq (ι : Inj) (l : List V) :
    (V.rec_1 (motive_1 := fun _ => Value → Prop) (motive_2 := fun _ => List Value → Prop)
    (fun b w => w = .bool b) (fun k n w => w = .int k n) (fun s w => w = .string s) (fun k i w => w = .int k (σ i))
    (fun w => w = .pointer none) (fun b o w => ∃ l, ι b = some l ∧ w = .pointer (some ⟨l.blk, l.off + o, none⟩))
    (fun w => w = .slice none 0 0)
    (fun b o len cap fx w => ∃ l c, ι b = some l ∧ w = .slice (some ⟨l.blk, l.off + o, none⟩) len c ∧ cap ≤ c ∧ (fx = none → c = cap) ∧ ∀ e, fx = some e → o + c * e ≤ l.sz)
    (fun w => w = .map none) (fun r w => ∃ l, ι r = some l ∧ w = .map (some l.blk))
    (fun f _ _ ih1 ih2 w => ∃ a b : Array Value, w = .func (.func f) a b ∧ ih1 a.toList ∧ ih2 b.toList)
    (fun r w => ∃ l, ι r = some l ∧ w = .func (.yield l.blk) #[] #[])
    (fun w => w = .nilFunc)
    (fun c ih w => ∃ a : Array Value, w = .agg a ∧ ih a.toList ∧ ∀ v ∈ c, v.one = true) (fun _ ih w => ∃ a : Array Value, w = .tuple a ∧ ih a.toList)
    (fun ws => ws = []) (fun _ _ ihv ihl ws => ∃ w ws', ws = w :: ws' ∧ ihv w ∧ ihl ws') l : List Value → Prop) = VRL σ ι l := by
  induction l with
  | nil => rfl
  | cons v l ih => funext ws; show (∃ w ws', ws = w :: ws' ∧ VR σ ι v w ∧ _) = _; rw [ih]; rfl

theorem VR.bool {b : Bool} : VR σ ι (.bool b) w ↔ w = .bool b := Iff.rfl
theorem VR.int {k : IntKind} {n : Int} : VR σ ι (.int k n) w ↔ w = .int k n := Iff.rfl
theorem VR.str {s : ByteArray} : VR σ ι (.str s) w ↔ w = .string s := Iff.rfl
theorem VR.sym {k : IntKind} {i : Nat} : VR σ ι (.sym k i) w ↔ w = .int k (σ i) := Iff.rfl
theorem VR.nilp : VR σ ι .nilp w ↔ w = .pointer none := Iff.rfl
theorem VR.ptr {b : Pos} {o : Nat} : VR σ ι (.ptr b o) w ↔ ∃ l, ι b = some l ∧ w = .pointer (some ⟨l.blk, l.off + o, none⟩) := Iff.rfl
theorem VR.nils : VR σ ι .nils w ↔ w = .slice none 0 0 := Iff.rfl
theorem VR.sl {b : Pos} {o len cap : Nat} {fx : Option Nat} : VR σ ι (.sl b o len cap fx) w ↔
    ∃ l c, ι b = some l ∧ w = .slice (some ⟨l.blk, l.off + o, none⟩) len c ∧ cap ≤ c ∧ (fx = none → c = cap) ∧ ∀ e, fx = some e → o + c * e ≤ l.sz := Iff.rfl
theorem VR.nilm : VR σ ι .nilm w ↔ w = .map none := Iff.rfl
theorem VR.map {r : Pos} : VR σ ι (.map r) w ↔ ∃ l, ι r = some l ∧ w = .map (some l.blk) := Iff.rfl
theorem VR.fn {f : Nat} {a b : List V} : VR σ ι (.fn f a b) w ↔ ∃ x y : Array Value, w = .func (.func f) x y ∧ VRL σ ι a x.toList ∧ VRL σ ι b y.toList := by
  rw [← VRL.eq (σ := σ) ι a, ← VRL.eq (σ := σ) ι b]; exact Iff.rfl
theorem VR.yield {r : Pos} : VR σ ι (.yield r) w ↔ ∃ l, ι r = some l ∧ w = .func (.yield l.blk) #[] #[] := Iff.rfl
theorem VR.nilf : VR σ ι .nilf w ↔ w = .nilFunc := Iff.rfl
theorem VR.agg {c : List V} : VR σ ι (.agg c) w ↔ ∃ a : Array Value, w = .agg a ∧ VRL σ ι c a.toList ∧ ∀ v ∈ c, v.one = true := by rw [← VRL.eq (σ := σ) ι c]; exact Iff.rfl
theorem VR.tup {c : List V} : VR σ ι (.tup c) w ↔ ∃ a : Array Value, w = .tuple a ∧ VRL σ ι c a.toList := by rw [← VRL.eq (σ := σ) ι c]; exact Iff.rfl
theorem VRL.nil {ws : List Value} : VRL σ ι [] ws ↔ ws = [] := Iff.rfl
theorem VRL.cons {v : V} {vs : List V} {ws : List Value} : VRL σ ι (v :: vs) ws ↔ ∃ w ws', ws = w :: ws' ∧ VR σ ι v w ∧ VRL σ ι vs ws' := Iff.rfl

def Le (ι ι' : Inj) : Prop := ∀ b l, ι b = some l → ι' b = some l
theorem Le.refl (ι : Inj) : Le ι ι := fun _ _ h => h
theorem Le.trans {ι ι' ι'' : Inj} (h : Le ι ι') (h' : Le ι' ι'') : Le ι ι'' := fun b l e => h' b l (h b l e)

theorem VR.mono {ι' : Inj} (hle : Le ι ι') : ∀ (v : V) (w : Value), VR σ ι v w → VR σ ι' v w := by
  intro v
  refine V.rec (motive_1 := fun v => ∀ w, VR σ ι v w → VR σ ι' v w) (motive_2 := fun l => ∀ ws, VRL σ ι l ws → VRL σ ι' l ws)
    (fun _ _ h => h) (fun _ _ _ h => h) (fun _ _ h => h) (fun _ _ _ h => h) (fun _ h => h) ?_ (fun _ h => h) ?_ (fun _ h => h) ?_ ?_ ?_ (fun _ h => h) ?_ ?_ (fun _ h => h) ?_ v
  · rintro b o w ⟨l, h, e⟩; exact ⟨l, hle _ _ h, e⟩
  · rintro b o n c f w ⟨l, c', h, e⟩; exact ⟨l, c', hle _ _ h, e⟩
  · rintro r w ⟨l, h, e⟩; exact ⟨l, hle _ _ h, e⟩
  · intro f a b iha ihb w h; obtain ⟨x, y, e, h1, h2⟩ := VR.fn.1 h; exact VR.fn.2 ⟨x, y, e, iha _ h1, ihb _ h2⟩
  · rintro r w ⟨l, h, e⟩; exact ⟨l, hle _ _ h, e⟩
  · intro c ih w h; obtain ⟨a, e, h, h1⟩ := VR.agg.1 h; exact VR.agg.2 ⟨a, e, ih _ h, h1⟩
  · intro c ih w h; obtain ⟨a, e, h⟩ := VR.tup.1 h; exact VR.tup.2 ⟨a, e, ih _ h⟩
  · rintro v vs ihv ihl ws ⟨w, ws', e, hv, hl⟩; exact ⟨w, ws', e, ihv _ hv, ihl _ hl⟩
theorem VRL.mono {ι' : Inj} (hle : Le ι ι') (vs : List V) (ws : List Value) (h : VRL σ ι vs ws) : VRL σ ι' vs ws := by
  induction vs generalizing ws with
  | nil => exact h
  | cons v vs ih => obtain ⟨w, ws', e, hv, hl⟩ := h; exact ⟨w, ws', e, VR.mono hle _ _ hv, ih _ hl⟩

theorem VRL.length {vs : List V} {ws : List Value} (h : VRL σ ι vs ws) : ws.length = vs.length := by
  induction vs generalizing ws with
  | nil => rw [VRL.nil.1 h]; rfl
  | cons v vs ih => obtain ⟨w, ws', rfl, _, h⟩ := h; simp [ih h]
theorem VRL.get {vs : List V} {ws : List Value} (h : VRL σ ι vs ws) {i : Nat} {v : V} (hi : vs[i]? = some v) : ∃ w, ws[i]? = some w ∧ VR σ ι v w := by
  induction vs generalizing ws i with
  | nil => simp at hi
  | cons u vs ih =>
    obtain ⟨w, ws', rfl, hv, h⟩ := h
    cases i with
    | zero => simp at hi; subst hi; exact ⟨w, by simp, hv⟩
    | succ i => simp at hi; simpa using ih h hi
theorem VRL.of_get {vs : List V} {ws : List Value} (hl : ws.length = vs.length) (h : ∀ (i : Nat) (v : V), vs[i]? = some v → ∃ w, ws[i]? = some w ∧ VR σ ι v w) : VRL σ ι vs ws := by
  induction vs generalizing ws with
  | nil => simp at hl; exact VRL.nil.2 hl
  | cons u vs ih =>
    cases ws with
    | nil => simp at hl
    | cons w ws =>
      refine ⟨w, ws, rfl, ?_, ih (by simpa using hl) fun i v hi => ?_⟩
      · obtain ⟨w', h1, h2⟩ := h 0 u (by simp); simp at h1; rw [h1]; exact h2
      · simpa using h (i + 1) v (by simpa using hi)
theorem VRL.append {a b : List V} {x y : List Value} (h : VRL σ ι a x) (h' : VRL σ ι b y) : VRL σ ι (a ++ b) (x ++ y) := by
  induction a generalizing x with
  | nil => rw [VRL.nil.1 h]; exact h'
  | cons v a ih => obtain ⟨w, ws, rfl, hv, h⟩ := h; exact ⟨w, _, rfl, hv, ih h⟩
end vr
end Go.Ab
