/- Each operation, eighth part: slices. -/
import Derived.Test.YtnhakkolafedhaaGreatAbK
set_option linter.unusedVariables false
set_option linter.unusedSimpArgs false
namespace Go.Ab
section
variable {P : Program} {cx : Cx} {σ : Nat → Int}

/-- an optional bound stands for the real one -/
def VO (σ : Nat → Int) (ι : Inj) : Option V → Option Value → Prop
  | none, none => True
  | some v, some x => VR σ ι v x
  | _, _ => False
theorem evo_sim {ι : Inj} {t : T} {ρ : Operand → Value} (hρ : Opds σ ι t ρ) {x : Option Operand} {y : Option Opd} (h : ofOpt x = some y) : VO σ ι (evo y t) (x.map ρ) := by
  cases x with
  | none => simp [ofOpt] at h; subst h; trivial
  | some x =>
    unfold ofOpt at h
    cases h1 : ofOpd x with
    | none => simp [h1] at h
    | some z => simp [h1] at h; subst h; exact hρ x z h1

theorem bnd_some {x : Option V} {y d : Nat} {k : Nat → R} {r : V × H} (e : bnd x y d k = some r) : ∃ n, k n = some r ∧ (x = none → n = d) ∧ (∀ v, x = some v → n ≤ y ∧ ∃ j, v = .int j (.ofNat n)) := by
  cases x with
  | none => exact ⟨d, e, fun _ => rfl, fun _ h => by cases h⟩
  | some v =>
    obtain ⟨j, n, hv, e⟩ := V.nat_some e
    obtain ⟨hle, e⟩ := ifK_some.1 e
    rw [Nat.ble_eq] at hle
    exact ⟨n, e, fun h => (by cases h), fun u hu => (by cases hu; exact ⟨hle, j, hv⟩)⟩
theorem bound_run {ι : Inj} {v : V} {x : Value} {n y : Nat} (h : VR σ ι v x) (hv : ∃ j, v = .int j (.ofNat n)) (hle : n ≤ y) (c : BoundsCode) (w : World) : (Instr.sliceBound x y c).run P w = .ok n w := by
  obtain ⟨j, rfl⟩ := hv
  have : x = .int j n := h
  subst this
  have : (n : Int) ≤ y := by omega
  simp [Instr.sliceBound, asIntOf, this]

theorem bounds_some {len cap : Nat} {lo hi mx : Option V} {k : Nat → Nat → Nat → R} {r : V × H} (e : bounds len cap lo hi mx k = some r) :
    ∃ l h m, k l h m = some r ∧ (mx = none → m = cap) ∧ m ≤ cap ∧ (hi = none → h = len) ∧ (hi ≠ none → h ≤ m) ∧ l ≤ h ∧
      ∀ (ι : Inj) (lo' hi' mx' : Option Value) (isS : Bool) (c : Nat) (w : World), cap ≤ c → (mx = none → c = cap) → VO σ ι lo lo' → VO σ ι hi hi' → VO σ ι mx mx' → (Instr.sliceBounds isS len c lo' hi' mx').run P w = .ok (l, h, m) w := by
  obtain ⟨m, e, hm1, hm2⟩ := bnd_some e
  have hmc : m ≤ cap := by
    cases mx with
    | none => rw [hm1 rfl]; exact Nat.le_refl _
    | some v => exact (hm2 v rfl).1
  cases hi with
  | none =>
    cases mx with
    | some v => cases e
    | none =>
      obtain ⟨l, e, hl1, hl2⟩ := bnd_some (x := lo) (y := len) (d := 0) (k := fun l => k l len m) e
      have hll : l ≤ len := by
        cases lo with
        | none => rw [hl1 rfl]; omega
        | some v => exact (hl2 v rfl).1
      refine ⟨l, len, m, e, hm1, hmc, fun _ => rfl, fun h => absurd rfl h, hll, fun ι lo' hi' mx' isS c w hcc hcx h1 h2 h3 => ?_⟩
      obtain rfl := hcx rfl
      cases hi' with
      | some _ => exact h2.elim
      | none => cases mx' with
        | some _ => exact h3.elim
        | none =>
          cases lo with
          | none => cases lo' with
            | some _ => exact h1.elim
            | none => simp [Instr.sliceBounds, hm1 rfl, hl1 rfl]
          | some v => cases lo' with
            | none => exact h1.elim
            | some x => simp [Instr.sliceBounds, hm1 rfl, bound_run h1 (hl2 v rfl).2 (hl2 v rfl).1]
  | some hv =>
    obtain ⟨h, e, _, hh⟩ := bnd_some (x := some hv) (y := m) (d := len) (k := fun h => bnd lo h 0 fun l => k l h m) e
    obtain ⟨l, e, hl1, hl2⟩ := bnd_some (x := lo) (y := h) (d := 0) (k := fun l => k l h m) e
    have hll : l ≤ h := by
      cases lo with
      | none => rw [hl1 rfl]; omega
      | some v => exact (hl2 v rfl).1
    refine ⟨l, h, m, e, hm1, hmc, fun h => (by cases h), fun _ => (hh hv rfl).1, hll, fun ι lo' hi' mx' isS c w hcc hcx h1 h2 h3 => ?_⟩
    cases hi' with
    | none => exact h2.elim
    | some hx =>
      have hb : ∀ c, (Instr.sliceBound hx m c).run P w = .ok h w := fun c => bound_run h2 (hh hv rfl).2 (hh hv rfl).1 c w
      cases mx with
      | none => cases mx' with
        | some _ => exact h3.elim
        | none =>
          have hmm := hm1 rfl
          obtain rfl := hcx rfl
          subst hmm
          cases lo with
          | none => cases lo' with
            | some _ => exact h1.elim
            | none => simp [Instr.sliceBounds, hb, hl1 rfl]
          | some v => cases lo' with
            | none => exact h1.elim
            | some x => simp [Instr.sliceBounds, hb, bound_run h1 (hl2 v rfl).2 (hl2 v rfl).1]
      | some mv => cases mx' with
        | none => exact h3.elim
        | some mxx =>
          have hmb : ∀ q, (Instr.sliceBound mxx c q).run P w = .ok m w := fun q => bound_run h3 (hm2 mv rfl).2 (Nat.le_trans (hm2 mv rfl).1 hcc) q w
          cases lo with
          | none => cases lo' with
            | some _ => exact h1.elim
            | none => simp [Instr.sliceBounds, hmb, hb, hl1 rfl]
          | some v => cases lo' with
            | none => exact h1.elim
            | some x => simp [Instr.sliceBounds, hmb, hb, bound_run h1 (hl2 v rfl).2 (hl2 v rfl).1]

/-- a slice's slice: the model's own result from its bounds -/
def cutOf (esz : Nat) (a : Addr) (l h m : Nat) : Value := .slice (some (if m = l then a else a.add (l * esz))) (h - l) (m - l)

theorem slcE_some {esz : Nat} {b : Pos} {o len cap : Nat} {fx : Option Nat} {lo hi mx : Option V} {k : V → R} {r : V × H} (e : slcE esz b o len cap fx lo hi mx k = some r) :
    ∃ v, k v = some r ∧ ∀ (ι : Inj) (L : Loc) (c : Nat) (lo' hi' mx' : Option Value) (isS : Bool) (w : World) (A : Nat), ι b = some L → cap ≤ c → (fx = none → c = cap) → (∀ e, fx = some e → o + c * e ≤ L.sz) → (A = L.off + o ∨ (c = 0 ∧ len = 0 ∧ fx ≠ none)) →
      VO σ ι lo lo' → VO σ ι hi hi' → VO σ ι mx mx' → ∃ l h m, (Instr.sliceBounds isS len c lo' hi' mx').run P w = .ok (l, h, m) w ∧ VR σ ι v (cutOf esz ⟨L.blk, A, none⟩ l h m) := by
  cases fx with
  | none =>
    obtain ⟨l, h, m, e, hm1, hmc, hh1, hh2, hlh, hrun⟩ := bounds_some (σ := σ) (P := P) (len := len) (cap := cap) (lo := lo) (hi := hi) (mx := mx) (k := fun l h m => Bool.rec (motive := fun _ => R) (k (.sl b (Nat.add o (Nat.mul l esz)) (Nat.sub h l) (Nat.sub m l) none)) (k (.sl b o (Nat.sub h l) 0 none)) (Nat.beq m l)) e
    have hk : k (if m = l then .sl b o (h - l) 0 none else .sl b (o + l * esz) (h - l) (m - l) none) = some r := by
      by_cases hml : m = l
      · have : Nat.beq m l = true := by rw [hml]; exact Nat.beq_refl l
        rw [this] at e; rw [if_pos hml]; exact e
      · have : Nat.beq m l = false := by
          cases hb : Nat.beq m l with
          | false => rfl
          | true => exact absurd (Nat.eq_of_beq_eq_true hb) hml
        rw [this] at e; rw [if_neg hml]; exact e
    refine ⟨_, hk, fun ι L c lo' hi' mx' isS w A hL hc hcx _ hA h1 h2 h3 => ?_⟩
    obtain rfl := hcx rfl
    obtain rfl : A = L.off + o := hA.resolve_right fun h => h.2.2 rfl
    refine ⟨l, h, m, hrun ι lo' hi' mx' isS _ w (Nat.le_refl _) (fun _ => rfl) h1 h2 h3, ?_⟩
    unfold cutOf
    by_cases hml : m = l
    · rw [if_pos hml, if_pos hml]
      exact VR.sl_mk hL rfl (by omega) (fun _ => (by omega)) (fun _ h => (by cases h))
    · rw [if_neg hml, if_neg hml, addr_add]
      exact VR.sl_mk hL (by rw [Nat.add_assoc]) (Nat.le_refl _) (fun _ => rfl) (fun _ h => (by cases h))
  | some f =>
    cases mx with
    | none =>
      obtain ⟨hf, e⟩ := ifK_some.1 e
      obtain ⟨hlc, e⟩ := ifK_some.1 e
      have hf := Nat.eq_of_beq_eq_true hf
      rw [Nat.ble_eq] at hlc
      obtain ⟨h, e, hh1, hh2⟩ := bnd_some e
      obtain ⟨l, e, hl1, hl2⟩ := bnd_some e
      refine ⟨_, e, fun ι L c lo' hi' mx' isS w A hL hc _ hsz hA h1 h2 h3 => ?_⟩
      have hll : l ≤ h := by
        cases lo with
        | none => rw [hl1 rfl]; omega
        | some v => exact (hl2 v rfl).1
      have hhl : h ≤ len := by
        cases hi with
        | none => rw [hh1 rfl]; exact Nat.le_refl _
        | some v => exact (hh2 v rfl).1
      refine ⟨l, h, c, ?_, ?_⟩
      · cases mx' with
        | some _ => exact h3.elim
        | none =>
          cases hi with
          | none => cases hi' with
            | some _ => exact h2.elim
            | none =>
              cases lo with
              | none => cases lo' with
                | some _ => exact h1.elim
                | none => simp [Instr.sliceBounds, hh1 rfl, hl1 rfl]
              | some v => cases lo' with
                | none => exact h1.elim
                | some x => have := hh1 rfl; subst this; simp [Instr.sliceBounds, bound_run h1 (hl2 v rfl).2 (hl2 v rfl).1]
          | some hv => cases hi' with
            | none => exact h2.elim
            | some hx =>
              have hb : ∀ q, (Instr.sliceBound hx c q).run P w = .ok h w := fun q => bound_run h2 (hh2 hv rfl).2 (by omega) q w
              cases lo with
              | none => cases lo' with
                | some _ => exact h1.elim
                | none => simp [Instr.sliceBounds, hb, hl1 rfl]
              | some v => cases lo' with
                | none => exact h1.elim
                | some x => simp [Instr.sliceBounds, hb, bound_run h1 (hl2 v rfl).2 (hl2 v rfl).1]
      · unfold cutOf
        have hfit : ∀ q, some f = some q → o + l * esz + (c - l) * q ≤ L.sz := fun q hq => by
          have hq' : f = q := by injection hq
          have hs := hsz f rfl
          rw [← hq', ← hf]
          have : l * f + (c - l) * f = c * f := by rw [← Nat.add_mul]; congr 1; omega
          omega
        by_cases hcl : c = l
        · rw [if_pos hcl]
          exact ⟨L, c - l, A, hL, rfl, (by show cap - l ≤ c - l; omega), fun h => (by cases h), hfit, .inr ⟨by omega, by show h - l = 0; omega, fun h => by cases h⟩⟩
        · obtain rfl : A = L.off + o := hA.resolve_right fun h => by omega
          rw [if_neg hcl, addr_add]
          exact VR.sl_mk hL (by rw [Nat.add_assoc]; rfl) (by show cap - l ≤ c - l; omega) (fun h => (by cases h)) hfit
    | some mv =>
      obtain ⟨l, h, m, e, hm1, hmc, hh1, hh2, hlh, hrun⟩ := bounds_some (σ := σ) (P := P) (len := len) (cap := cap) (lo := lo) (hi := hi) (mx := some mv) (k := fun l h m => ifK (ltb l m) (k (.sl b (Nat.add o (Nat.mul l esz)) (Nat.sub h l) (Nat.sub m l) none))) e
      obtain ⟨hlt, e⟩ := ifK_some.1 e
      rw [ltb_iff] at hlt
      refine ⟨_, e, fun ι L c lo' hi' mx' isS w A hL hc _ _ hA h1 h2 h3 => ⟨l, h, m, ?_, ?_⟩⟩
      · exact hrun ι lo' hi' mx' isS c w hc (fun h => by cases h) h1 h2 h3
      · unfold cutOf
        obtain rfl : A = L.off + o := hA.resolve_right fun h => by omega
        rw [if_neg (by omega), addr_add]
        exact VR.sl_mk hL (by rw [Nat.add_assoc]; rfl) (Nat.le_refl _) (fun _ => rfl) (fun _ h => (by cases h))
end
end Go.Ab
