/- Places, tries; how abstract values and heaps stand for real ones; what a run may change. -/
import Derived.Test.YtnhakkolafedhaaGreatAbA
import Derived.RangeFuncLeaves
import Derived.OrdersIn
set_option linter.unusedVariables false
set_option linter.unusedSimpArgs false
namespace Go.Ab

/-! ### places -/
theorem Pb.nat_pos (p : Pb) : 1 ≤ p.nat := by
  induction p with
  | one => exact Nat.le_refl _
  | o p ih => show 1 ≤ 2 * p.nat; omega
  | i p ih => show 1 ≤ 2 * p.nat + 1; omega
theorem Pb.nat_succ (p : Pb) : p.succ.nat = p.nat + 1 := by
  induction p with
  | one => rfl
  | o p _ => rfl
  | i p ih => show 2 * p.succ.nat = 2 * p.nat + 1 + 1; omega
theorem Pb.nat_inj {p q : Pb} (h : p.nat = q.nat) : p = q := by
  induction p generalizing q with
  | one => cases q with
    | one => rfl
    | o q => have := q.nat_pos; have h : 1 = 2 * q.nat := h; omega
    | i q => have := q.nat_pos; have h : 1 = 2 * q.nat + 1 := h; omega
  | o p ih => cases q with
    | one => have := p.nat_pos; have h : 2 * p.nat = 1 := h; omega
    | o q => have h : 2 * p.nat = 2 * q.nat := h; rw [ih (q := q) (by omega)]
    | i q => have h : 2 * p.nat = 2 * q.nat + 1 := h; omega
  | i p ih => cases q with
    | one => have := p.nat_pos; have h : 2 * p.nat + 1 = 1 := h; omega
    | o q => have h : 2 * p.nat + 1 = 2 * q.nat := h; omega
    | i q => have h : 2 * p.nat + 1 = 2 * q.nat + 1 := h; rw [ih (q := q) (by omega)]
theorem Pb.nat_go (f : Nat) : ∀ n, 1 ≤ n → n ≤ f → (Pb.go f n).nat = n := by
  induction f with
  | zero => intro n h1 h2; omega
  | succ f ih =>
    intro n h1 h2
    show (Bool.rec (motive := fun _ => Pb) (Nat.rec (motive := fun _ => Pb) (.o (Pb.go f (Nat.div n 2))) (fun _ _ => .i (Pb.go f (Nat.div n 2))) (Nat.mod n 2)) .one (Nat.ble n 1) : Pb).nat = n
    by_cases hn : n ≤ 1
    · have : Nat.ble n 1 = true := by rw [Nat.ble_eq]; exact hn
      rw [this]; show 1 = n; omega
    · have hb : Nat.ble n 1 = false := by
        cases hb : Nat.ble n 1 with
        | false => rfl
        | true => rw [Nat.ble_eq] at hb; exact absurd hb hn
      rw [hb]
      have hd : Nat.div n 2 = n / 2 := rfl
      have hm : Nat.mod n 2 = n % 2 := rfl
      have := ih (n / 2) (by omega) (by omega)
      rw [hd, hm]
      rcases Nat.mod_two_eq_zero_or_one n with h | h
      · rw [h]; show 2 * (Pb.go f (n / 2)).nat = n; rw [this]; omega
      · rw [h]; show 2 * (Pb.go f (n / 2)).nat + 1 = n; rw [this]; omega
theorem D4.nat_lt (d : D4) : d.nat < 4 := by cases d <;> decide
theorem D4.nat_inj {d e : D4} (h : d.nat = e.nat) : d = e := by cases d <;> cases e <;> first | rfl | (exact absurd h (by decide))
theorem D4.nat_of (n : Nat) : (D4.of n).nat = n % 4 := by
  have hm : Nat.mod n 4 = n % 4 := rfl
  unfold D4.of
  rw [hm]
  have : n % 4 = 0 ∨ n % 4 = 1 ∨ n % 4 = 2 ∨ n % 4 = 3 := by omega
  rcases this with h | h | h | h <;> rw [h] <;> rfl
theorem D4.add_eq (d : D4) (n : Nat) : d.add n = 4 * n + d.nat := rfl
noncomputable def Pos.toNat (p : Pos) : Nat := p.nat
theorem Pos.toNat_s (x y z : D4) : (Pos.s x y z).toNat = 4 * (4 * x.nat + y.nat) + z.nat + 1 := rfl
theorem Pos.toNat_m (p q r v x y z : D4) : (Pos.m p q r v x y z).toNat = 65 + (4 * (4 * (4 * (4 * (4 * (4 * p.nat + q.nat) + r.nat) + v.nat) + x.nat) + y.nat) + z.nat) := rfl
theorem Pos.toNat_far (p : Pb) : (Pos.far p).toNat = 16448 + p.nat := rfl
theorem Pos.toNat_pos (p : Pos) : 1 ≤ p.toNat := by
  cases p with
  | s x y z => rw [toNat_s]; omega
  | m p q r v x y z => rw [toNat_m]; omega
  | far p => rw [toNat_far]; omega
theorem Pos.toNat_succ (p : Pos) : p.succ.toNat = p.toNat + 1 := by
  cases p with
  | s x y z => cases z <;> first | rfl | (cases y <;> first | rfl | (cases x <;> rfl))
  | m p q r v x y z =>
    cases z <;> first | rfl | (cases y <;> first | rfl | (cases x <;> first | rfl | (cases v <;> first | rfl | (cases r <;> first | rfl | (cases q <;> first | rfl | (cases p <;> rfl))))))
  | far p => show 16448 + p.succ.nat = _; rw [Pb.nat_succ]; rfl
theorem Pos.toNat_inj {a b : Pos} (h : a.toNat = b.toNat) : a = b := by
  cases a with
  | s x y z =>
    have := x.nat_lt; have := y.nat_lt; have := z.nat_lt
    cases b with
    | s x' y' z' =>
      have := x'.nat_lt; have := y'.nat_lt; have := z'.nat_lt
      rw [toNat_s, toNat_s] at h
      rw [D4.nat_inj (d := x) (e := x') (by omega), D4.nat_inj (d := y) (e := y') (by omega), D4.nat_inj (d := z) (e := z') (by omega)]
    | m p' q' r' v' x' y' z' => rw [toNat_s, toNat_m] at h; omega
    | far p => rw [toNat_s, toNat_far] at h; omega
  | m p q r v x y z =>
    have := p.nat_lt; have := q.nat_lt; have := r.nat_lt; have := v.nat_lt; have := x.nat_lt; have := y.nat_lt; have := z.nat_lt
    cases b with
    | s x' y' z' => have := x'.nat_lt; have := y'.nat_lt; have := z'.nat_lt; rw [toNat_s, toNat_m] at h; omega
    | m p' q' r' v' x' y' z' =>
      have := p'.nat_lt; have := q'.nat_lt; have := r'.nat_lt; have := v'.nat_lt; have := x'.nat_lt; have := y'.nat_lt; have := z'.nat_lt
      rw [toNat_m, toNat_m] at h
      rw [D4.nat_inj (d := p) (e := p') (by omega), D4.nat_inj (d := q) (e := q') (by omega), D4.nat_inj (d := r) (e := r') (by omega), D4.nat_inj (d := v) (e := v') (by omega),
        D4.nat_inj (d := x) (e := x') (by omega), D4.nat_inj (d := y) (e := y') (by omega), D4.nat_inj (d := z) (e := z') (by omega)]
    | far p' => have := p'.nat_pos; rw [toNat_m, toNat_far] at h; omega
  | far p =>
    have := p.nat_pos
    cases b with
    | s x' y' z' => have := x'.nat_lt; have := y'.nat_lt; have := z'.nat_lt; rw [toNat_s, toNat_far] at h; omega
    | m p' q' r' v' x' y' z' =>
      have := p'.nat_lt; have := q'.nat_lt; have := r'.nat_lt; have := v'.nat_lt; have := x'.nat_lt; have := y'.nat_lt; have := z'.nat_lt
      rw [toNat_m, toNat_far] at h; omega
    | far p' => rw [toNat_far, toNat_far] at h; rw [Pb.nat_inj (p := p) (q := p') (by omega)]
theorem Pos.toNat_of (n : Nat) : (Pos.of n).toNat = n + 1 := by
  unfold Pos.of
  cases h1 : Nat.ble n 63 with
  | true =>
    rw [Nat.ble_eq] at h1
    show (Pos.s _ _ _).toNat = _
    have e1 : Nat.div n 16 = n / 16 := rfl
    have e2 : Nat.div n 4 = n / 4 := rfl
    rw [toNat_s, D4.nat_of, D4.nat_of, D4.nat_of, e1, e2]; omega
  | false =>
    have h1 : ¬ n ≤ 63 := fun h => by rw [← Nat.ble_eq, h1] at h; cases h
    cases h2 : Nat.ble n 16447 with
    | true =>
      rw [Nat.ble_eq] at h2
      show (Pos.m _ _ _ _ _ _ _).toNat = _
      have e0 : Nat.sub n 64 = n - 64 := rfl
      rw [toNat_m, D4.nat_of, D4.nat_of, D4.nat_of, D4.nat_of, D4.nat_of, D4.nat_of, D4.nat_of, e0]
      have e1 : ∀ k, Nat.div (n - 64) k = (n - 64) / k := fun _ => rfl
      rw [e1, e1, e1, e1, e1, e1]
      generalize hm : n - 64 = m
      omega
    | false =>
      have h2 : ¬ n ≤ 16447 := fun h => by rw [← Nat.ble_eq, h2] at h; cases h
      show (Pos.far _).toNat = _
      have e0 : Nat.sub n 16447 = n - 16447 := rfl
      rw [toNat_far, e0, Pb.nat_go _ _ (by omega) (by omega)]; omega
theorem Pos.of_inj {m n : Nat} (h : Pos.of m = Pos.of n) : m = n := by
  have := congrArg Pos.toNat h; simp [Pos.toNat_of] at this; exact this
theorem Pos.of_ne {m n : Nat} (h : m ≠ n) : Pos.of m ≠ Pos.of n := fun e => h (Pos.of_inj e)

/-! ### tries -/
section
variable {α : Type}
theorem Tb.get_put_same (p : Pb) (x : α) : ∀ t : Tb α, (Tb.put p x t).get p = some x := by
  induction p with
  | one => intro t; cases t <;> rfl
  | o p ih => intro t; cases t with
    | nil => exact ih .nil
    | node v l r => exact ih l
  | i p ih => intro t; cases t with
    | nil => exact ih .nil
    | node v l r => exact ih r
theorem Tb.get_put_ne (p : Pb) (x : α) : ∀ (t : Tb α) (q : Pb), q ≠ p → (Tb.put p x t).get q = t.get q := by
  induction p with
  | one => intro t q h; cases t <;> cases q <;> first | exact absurd rfl h | rfl
  | o p ih => intro t q h; cases t with
    | nil => cases q with
      | one => rfl
      | o q => exact ih .nil q (fun e => h (by rw [e]))
      | i q => rfl
    | node v l r => cases q with
      | one => rfl
      | o q => exact ih l q (fun e => h (by rw [e]))
      | i q => rfl
  | i p ih => intro t q h; cases t with
    | nil => cases q with
      | one => rfl
      | o q => rfl
      | i q => exact ih .nil q (fun e => h (by rw [e]))
    | node v l r => cases q with
      | one => rfl
      | o q => rfl
      | i q => exact ih r q (fun e => h (by rw [e]))
@[simp] theorem D4.sel_all {β : Type} (d : D4) (x : β) : d.sel (.all x) = x := by cases d <;> rfl
theorem D4.sel_upd {β : Type} (d : D4) (f : β → β) (n : N4 β) : d.sel (d.upd f n) = f (d.sel n) := by cases d <;> rfl
theorem D4.sel_upd_ne {β : Type} {d e : D4} (h : e ≠ d) (f : β → β) (n : N4 β) : e.sel (d.upd f n) = e.sel n := by cases d <;> cases e <;> first | rfl | exact absurd rfl h
@[simp] theorem Tr.get_nil (p : Pos) : (Tr.nil : Tr α).get p = none := by
  cases p with
  | s x y z => show z.sel (y.sel (x.sel (.all (.all (.all none))))) = _; simp
  | m p q r v x y z => show z.sel (y.sel (x.sel (v.sel (r.sel (q.sel (p.sel (.all (.all (.all (.all (.all (.all (.all none)))))))))))))  = _; simp
  | far p => rfl
theorem Tr.get_s (x y z : D4) (t : Tr α) : t.get (.s x y z) = z.sel (y.sel (x.sel t.s)) := rfl
theorem Tr.get_m (p q r v x y z : D4) (t : Tr α) : t.get (.m p q r v x y z) = z.sel (y.sel (x.sel (v.sel (r.sel (q.sel (p.sel t.m)))))) := rfl
theorem Tr.put_s (x y z : D4) (w : α) (s m) (f : Tb α) : Tr.put (.s x y z) w ⟨s, m, f⟩ = ⟨x.upd (fun n => y.upd (fun n => z.upd (fun _ => some w) n) n) s, m, f⟩ := rfl
theorem Tr.put_m (p q r v x y z : D4) (w : α) (s m) (f : Tb α) : Tr.put (.m p q r v x y z) w ⟨s, m, f⟩ =
    ⟨s, p.upd (fun n => q.upd (fun n => r.upd (fun n => v.upd (fun n => x.upd (fun n => y.upd (fun n => z.upd (fun _ => some w) n) n) n) n) n) n) m, f⟩ := rfl
theorem Tr.get_put_same (p : Pos) (w : α) (t : Tr α) : (Tr.put p w t).get p = some w := by
  cases t
  cases p with
  | s x y z => rw [Tr.put_s, Tr.get_s, D4.sel_upd, D4.sel_upd, D4.sel_upd]
  | m p q r v x y z => rw [Tr.put_m, Tr.get_m, D4.sel_upd, D4.sel_upd, D4.sel_upd, D4.sel_upd, D4.sel_upd, D4.sel_upd, D4.sel_upd]
  | far p => exact Tb.get_put_same _ _ _
theorem Tr.get_put_ne (p : Pos) (w : α) (t : Tr α) (p' : Pos) (h : p' ≠ p) : (Tr.put p w t).get p' = t.get p' := by
  cases t with
  | mk s m f =>
  cases p with
  | s x y z =>
    cases p' with
    | s x' y' z' =>
      rw [Tr.put_s, Tr.get_s, Tr.get_s]
      dsimp only
      by_cases hx : x' = x
      · subst hx
        rw [D4.sel_upd]
        by_cases hy : y' = y
        · subst hy
          rw [D4.sel_upd]
          exact D4.sel_upd_ne (fun e => h (by rw [e])) _ _
        · rw [D4.sel_upd_ne hy]
      · rw [D4.sel_upd_ne hx]
    | m => rfl
    | far => rfl
  | m p q r v x y z =>
    cases p' with
    | s => rfl
    | m p' q' r' v' x' y' z' =>
      rw [Tr.put_m, Tr.get_m, Tr.get_m]
      dsimp only
      by_cases h1 : p' = p
      · subst h1
        rw [D4.sel_upd]
        by_cases h2 : q' = q
        · subst h2
          rw [D4.sel_upd]
          by_cases h3 : r' = r
          · subst h3
            rw [D4.sel_upd]
            by_cases h4 : v' = v
            · subst h4
              rw [D4.sel_upd]
              by_cases h5 : x' = x
              · subst h5
                rw [D4.sel_upd]
                by_cases h6 : y' = y
                · subst h6
                  rw [D4.sel_upd]
                  exact D4.sel_upd_ne (fun e => h (by rw [e])) _ _
                · rw [D4.sel_upd_ne h6]
              · rw [D4.sel_upd_ne h5]
            · rw [D4.sel_upd_ne h4]
          · rw [D4.sel_upd_ne h3]
        · rw [D4.sel_upd_ne h2]
      · rw [D4.sel_upd_ne h1]
    | far => rfl
  | far p =>
    cases p' with
    | s => rfl
    | m => rfl
    | far p' => exact Tb.get_put_ne _ _ _ _ (fun e => h (by rw [e]))
end

theorem Tr.getV_eq (t : Tr V) (p : Pos) : t.getV p = t.get p := rfl
theorem Tr.putV_eq (p : Pos) (w : V) (t : Tr V) : Tr.putV p w t = Tr.put p w t := rfl
theorem Tr.getO_eq (t : Tr O) (p : Pos) : t.getO p = t.get p := rfl
theorem Tr.putO_eq (p : Pos) (w : O) (t : Tr O) : Tr.putO p w t = Tr.put p w t := rfl

/-! ### heaps -/
noncomputable def H.get (h : H) (b : Pos) : Option O := H.rec (motive := fun _ => Option O) (fun _ m => m.get b) h
noncomputable def H.nx (h : H) : Pos := H.rec (motive := fun _ => Pos) (fun nx _ => nx) h
theorem H.get_put_same (h : H) (b : Pos) (o : O) : (h.put b o).get b = some o := by cases h; exact Tr.get_put_same _ _ _
theorem H.get_put_ne (h : H) (b q : Pos) (o : O) (hq : q ≠ b) : (h.put b o).get q = h.get q := by cases h; exact Tr.get_put_ne _ _ _ _ hq
@[simp] theorem H.nx_put (h : H) (b : Pos) (o : O) : (h.put b o).nx = h.nx := by cases h; rfl
noncomputable def H.push (h : H) (o : O) : H := H.rec (motive := fun _ => H) (fun nx m => .mk nx.succ (Tr.put nx o m)) h
theorem H.alloc_eq (h : H) (o : O) (k : Pos → H → R) : h.alloc o k = k h.nx (h.push o) := by cases h; rfl
@[simp] theorem H.nx_push (h : H) (o : O) : (h.push o).nx = h.nx.succ := by cases h; rfl
theorem H.get_push_same (h : H) (o : O) : (h.push o).get h.nx = some o := by cases h; exact Tr.get_put_same _ _ _
theorem H.get_push_ne (h : H) (o : O) (q : Pos) (hq : q ≠ h.nx) : (h.push o).get q = h.get q := by cases h; exact Tr.get_put_ne _ _ _ _ hq

/-! ### what stands for what -/
/-- where an abstract block lies: from cell 'off' of a real block on, 'sz' cells of which are its -/
structure Loc where
  blk : Nat
  off : Nat
  sz : Nat

abbrev Inj := Pos → Option Loc

variable (σ : Nat → Int)

noncomputable def VRL' (VR : V → Value → Prop) (vs : List V) : List Value → Prop :=
  List.rec (motive := fun _ => List Value → Prop) (fun ws => ws = []) (fun v _ ih ws => ∃ w ws', ws = w :: ws' ∧ VR v w ∧ ih ws') vs

noncomputable def VR (ι : Inj) (v : V) : Value → Prop :=
  V.rec (motive_1 := fun _ => Value → Prop) (motive_2 := fun _ => List Value → Prop)
    (fun b w => w = .bool b) (fun k n w => w = .int k n) (fun s w => w = .string s) (fun k i w => w = .int k (σ i))
    (fun w => w = .pointer none) (fun b o w => ∃ l, ι b = some l ∧ w = .pointer (some ⟨l.blk, l.off + o, none⟩))
    (fun w => w = .slice none 0 0)
    (fun b o len cap fx w => ∃ l c A, ι b = some l ∧ w = .slice (some ⟨l.blk, A, none⟩) len c ∧ cap ≤ c ∧ (fx = none → c = cap) ∧ (∀ e, fx = some e → o + c * e ≤ l.sz) ∧ (A = l.off + o ∨ (c = 0 ∧ len = 0 ∧ fx ≠ none)))
    (fun w => w = .map none) (fun r w => ∃ l, ι r = some l ∧ w = .map (some l.blk))
    (fun f _ _ ih1 ih2 w => ∃ a b : Array Value, w = .func (.func f) a b ∧ ih1 a.toList ∧ ih2 b.toList)
    (fun r w => ∃ l, ι r = some l ∧ w = .func (.yield l.blk) #[] #[])
    (fun w => w = .nilFunc)
    (fun c ih w => ∃ a : Array Value, w = .agg a ∧ ih a.toList ∧ ∀ v ∈ c, v.one = true) (fun _ ih w => ∃ a : Array Value, w = .tuple a ∧ ih a.toList)
    (fun ws => ws = []) (fun _ _ ihv ihl ws => ∃ w ws', ws = w :: ws' ∧ ihv w ∧ ihl ws') v

abbrev VRL (ι : Inj) : List V → List Value → Prop := VRL' (VR σ ι)

section vr
variable {σ : Nat → Int} {ι : Inj} {w : Value}
theorem VRL.eq (ι : Inj) (l : List V) :
    (V.rec_1 (motive_1 := fun _ => Value → Prop) (motive_2 := fun _ => List Value → Prop)
    (fun b w => w = .bool b) (fun k n w => w = .int k n) (fun s w => w = .string s) (fun k i w => w = .int k (σ i))
    (fun w => w = .pointer none) (fun b o w => ∃ l, ι b = some l ∧ w = .pointer (some ⟨l.blk, l.off + o, none⟩))
    (fun w => w = .slice none 0 0)
    (fun b o len cap fx w => ∃ l c A, ι b = some l ∧ w = .slice (some ⟨l.blk, A, none⟩) len c ∧ cap ≤ c ∧ (fx = none → c = cap) ∧ (∀ e, fx = some e → o + c * e ≤ l.sz) ∧ (A = l.off + o ∨ (c = 0 ∧ len = 0 ∧ fx ≠ none)))
    (fun w => w = .map none) (fun r w => ∃ l, ι r = some l ∧ w = .map (some l.blk))
    (fun f _ _ ih1 ih2 w => ∃ a b : Array Value, w = .func (.func f) a b ∧ ih1 a.toList ∧ ih2 b.toList)
    (fun r w => ∃ l, ι r = some l ∧ w = .func (.yield l.blk) #[] #[])
    (fun w => w = .nilFunc)
    (fun c ih w => ∃ a : Array Value, w = .agg a ∧ ih a.toList ∧ ∀ v ∈ c, v.one = true) (fun _ ih w => ∃ a : Array Value, w = .tuple a ∧ ih a.toList)
    (fun ws => ws = []) (fun _ _ ihv ihl ws => ∃ w ws', ws = w :: ws' ∧ ihv w ∧ ihl ws') l : List Value → Prop) = VRL σ ι l := by
  induction l with
  | nil => rfl
  | cons v l ih => funext ws; show (∃ w ws', ws = w :: ws' ∧ VR σ ι v w ∧ _) = _; rw [ih]; rfl

theorem VR.bool {b : Bool} : VR σ ι (.bool b) w ↔ w = .bool b := Iff.rfl
theorem VR.int {k : IntKind} {n : Int} : VR σ ι (.int k n) w ↔ w = .int k n := Iff.rfl
theorem VR.str {s : ByteArray} : VR σ ι (.str s) w ↔ w = .string s := Iff.rfl
theorem VR.sym {k : IntKind} {i : Nat} : VR σ ι (.sym k i) w ↔ w = .int k (σ i) := Iff.rfl
theorem VR.nilp : VR σ ι .nilp w ↔ w = .pointer none := Iff.rfl
theorem VR.ptr {b : Pos} {o : Nat} : VR σ ι (.ptr b o) w ↔ ∃ l, ι b = some l ∧ w = .pointer (some ⟨l.blk, l.off + o, none⟩) := Iff.rfl
theorem VR.nils : VR σ ι .nils w ↔ w = .slice none 0 0 := Iff.rfl
theorem VR.sl {b : Pos} {o len cap : Nat} {fx : Option Nat} : VR σ ι (.sl b o len cap fx) w ↔
    ∃ l c A, ι b = some l ∧ w = .slice (some ⟨l.blk, A, none⟩) len c ∧ cap ≤ c ∧ (fx = none → c = cap) ∧ (∀ e, fx = some e → o + c * e ≤ l.sz) ∧ (A = l.off + o ∨ (c = 0 ∧ len = 0 ∧ fx ≠ none)) := Iff.rfl
theorem VR.sl_mk {b : Pos} {o len cap : Nat} {fx : Option Nat} {l : Loc} {c : Nat} (h1 : ι b = some l) (h2 : w = .slice (some ⟨l.blk, l.off + o, none⟩) len c) (h3 : cap ≤ c) (h4 : fx = none → c = cap) (h5 : ∀ e, fx = some e → o + c * e ≤ l.sz) :
    VR σ ι (.sl b o len cap fx) w := ⟨l, c, _, h1, h2, h3, h4, h5, .inl rfl⟩
theorem VR.sl_pre {b : Pos} {o len cap : Nat} {fx : Option Nat} (h : VR σ ι (.sl b o len cap fx) w) (hp : len ≠ 0 ∨ fx = none) :
    ∃ l c, ι b = some l ∧ w = .slice (some ⟨l.blk, l.off + o, none⟩) len c ∧ cap ≤ c ∧ (fx = none → c = cap) ∧ ∀ e, fx = some e → o + c * e ≤ l.sz := by
  obtain ⟨l, c, A, h1, h2, h3, h4, h5, h6⟩ := h
  rcases h6 with rfl | ⟨_, hl, hf⟩
  · exact ⟨l, c, h1, h2, h3, h4, h5⟩
  · rcases hp with hp | hp
    · exact absurd hl hp
    · exact absurd hp hf
theorem VR.nilm : VR σ ι .nilm w ↔ w = .map none := Iff.rfl
theorem VR.map {r : Pos} : VR σ ι (.map r) w ↔ ∃ l, ι r = some l ∧ w = .map (some l.blk) := Iff.rfl
theorem VR.fn {f : Nat} {a b : List V} : VR σ ι (.fn f a b) w ↔ ∃ x y : Array Value, w = .func (.func f) x y ∧ VRL σ ι a x.toList ∧ VRL σ ι b y.toList := by
  rw [← VRL.eq (σ := σ) ι a, ← VRL.eq (σ := σ) ι b]; exact Iff.rfl
theorem VR.yield {r : Pos} : VR σ ι (.yield r) w ↔ ∃ l, ι r = some l ∧ w = .func (.yield l.blk) #[] #[] := Iff.rfl
theorem VR.nilf : VR σ ι .nilf w ↔ w = .nilFunc := Iff.rfl
theorem VR.agg {c : List V} : VR σ ι (.agg c) w ↔ ∃ a : Array Value, w = .agg a ∧ VRL σ ι c a.toList ∧ ∀ v ∈ c, v.one = true := by rw [← VRL.eq (σ := σ) ι c]; exact Iff.rfl
theorem VR.tup {c : List V} : VR σ ι (.tup c) w ↔ ∃ a : Array Value, w = .tuple a ∧ VRL σ ι c a.toList := by rw [← VRL.eq (σ := σ) ι c]; exact Iff.rfl
theorem VRL.nil {ws : List Value} : VRL σ ι [] ws ↔ ws = [] := Iff.rfl
theorem VRL.cons {v : V} {vs : List V} {ws : List Value} : VRL σ ι (v :: vs) ws ↔ ∃ w ws', ws = w :: ws' ∧ VR σ ι v w ∧ VRL σ ι vs ws' := Iff.rfl

def Le (ι ι' : Inj) : Prop := ∀ b l, ι b = some l → ι' b = some l
theorem Le.refl (ι : Inj) : Le ι ι := fun _ _ h => h
theorem Le.trans {ι ι' ι'' : Inj} (h : Le ι ι') (h' : Le ι' ι'') : Le ι ι'' := fun b l e => h' b l (h b l e)

theorem VR.mono {ι' : Inj} (hle : Le ι ι') : ∀ (v : V) (w : Value), VR σ ι v w → VR σ ι' v w := by
  intro v
  refine V.rec (motive_1 := fun v => ∀ w, VR σ ι v w → VR σ ι' v w) (motive_2 := fun l => ∀ ws, VRL σ ι l ws → VRL σ ι' l ws)
    (fun _ _ h => h) (fun _ _ _ h => h) (fun _ _ h => h) (fun _ _ _ h => h) (fun _ h => h) ?_ (fun _ h => h) ?_ (fun _ h => h) ?_ ?_ ?_ (fun _ h => h) ?_ ?_ (fun _ h => h) ?_ v
  · rintro b o w ⟨l, h, e⟩; exact ⟨l, hle _ _ h, e⟩
  · rintro b o n c f w ⟨l, c', A, h, e⟩; exact ⟨l, c', A, hle _ _ h, e⟩
  · rintro r w ⟨l, h, e⟩; exact ⟨l, hle _ _ h, e⟩
  · intro f a b iha ihb w h; obtain ⟨x, y, e, h1, h2⟩ := VR.fn.1 h; exact VR.fn.2 ⟨x, y, e, iha _ h1, ihb _ h2⟩
  · rintro r w ⟨l, h, e⟩; exact ⟨l, hle _ _ h, e⟩
  · intro c ih w h; obtain ⟨a, e, h, h1⟩ := VR.agg.1 h; exact VR.agg.2 ⟨a, e, ih _ h, h1⟩
  · intro c ih w h; obtain ⟨a, e, h⟩ := VR.tup.1 h; exact VR.tup.2 ⟨a, e, ih _ h⟩
  · rintro v vs ihv ihl ws ⟨w, ws', e, hv, hl⟩; exact ⟨w, ws', e, ihv _ hv, ihl _ hl⟩
theorem VRL.mono {ι' : Inj} (hle : Le ι ι') (vs : List V) (ws : List Value) (h : VRL σ ι vs ws) : VRL σ ι' vs ws := by
  induction vs generalizing ws with
  | nil => exact h
  | cons v vs ih => obtain ⟨w, ws', e, hv, hl⟩ := h; exact ⟨w, ws', e, VR.mono hle _ _ hv, ih _ hl⟩

theorem VRL.length {vs : List V} {ws : List Value} (h : VRL σ ι vs ws) : ws.length = vs.length := by
  induction vs generalizing ws with
  | nil => rw [VRL.nil.1 h]; rfl
  | cons v vs ih => obtain ⟨w, ws', rfl, _, h⟩ := h; simp [ih h]
theorem VRL.get {vs : List V} {ws : List Value} (h : VRL σ ι vs ws) {i : Nat} {v : V} (hi : vs[i]? = some v) : ∃ w, ws[i]? = some w ∧ VR σ ι v w := by
  induction vs generalizing ws i with
  | nil => simp at hi
  | cons u vs ih =>
    obtain ⟨w, ws', rfl, hv, h⟩ := h
    cases i with
    | zero => simp at hi; subst hi; exact ⟨w, by simp, hv⟩
    | succ i => simp at hi; simpa using ih h hi
theorem VRL.of_get {vs : List V} {ws : List Value} (hl : ws.length = vs.length) (h : ∀ (i : Nat) (v : V), vs[i]? = some v → ∃ w, ws[i]? = some w ∧ VR σ ι v w) : VRL σ ι vs ws := by
  induction vs generalizing ws with
  | nil => simp at hl; exact VRL.nil.2 hl
  | cons u vs ih =>
    cases ws with
    | nil => simp at hl
    | cons w ws =>
      refine ⟨w, ws, rfl, ?_, ih (by simpa using hl) fun i v hi => ?_⟩
      · obtain ⟨w', h1, h2⟩ := h 0 u (by simp); simp at h1; rw [h1]; exact h2
      · simpa using h (i + 1) v (by simpa using hi)
theorem VRL.append {a b : List V} {x y : List Value} (h : VRL σ ι a x) (h' : VRL σ ι b y) : VRL σ ι (a ++ b) (x ++ y) := by
  induction a generalizing x with
  | nil => rw [VRL.nil.1 h]; exact h'
  | cons v a ih => obtain ⟨w, ws, rfl, hv, h⟩ := h; exact ⟨w, _, rfl, hv, ih h⟩
end vr
end Go.Ab
