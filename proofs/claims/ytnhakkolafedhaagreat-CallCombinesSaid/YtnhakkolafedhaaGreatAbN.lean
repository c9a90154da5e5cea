/- append, copy, clear: at the operation. -/
import Derived.Test.YtnhakkolafedhaaGreatAbM
set_option linter.unusedVariables false
set_option linter.unusedSimpArgs false
namespace Go.Ab
section
variable {P : Program} {cx : Cx} {σ : Nat → Int}

theorem cut_append (need old : Nat) (elem : TypeId) (t : Nat) : need ≤ (Question.appendCap need old elem).cut t := by
  show need ≤ need + t % (2 ^ 63 - need); omega

/-- the model's append where a new array is made -/
theorem append_grows (hy : Hyp P cx) {sT u e e2 : TypeId} {esz by_ : Nat} {zs : List V} {ty : TypeId} (hu : und cx sT = some (.slice e)) (hu2 : und cx u = some (.slice e2)) (hs : szOf cx e = some esz)
    (hz : zerosOf cx e = some zs) (hby : byOf cx e = some by_) (hb : by_ ≤ 1024) {base : Option Addr} {len c : Nat} {ax : Option Addr} {n cx2 : Nat} {w : World} (hgt : c < len + n) (hle : len + n ≤ 1073741824)
    {old new : List Value} (ho : (Builtin.firstCells esz len (.slice base len c)).run P w.drew = .ok old.toArray w.drew) (hn : (Builtin.firstCells esz n (.slice ax n cx2)).run P w.drew = .ok new.toArray w.drew) (hesz : zs.length = esz)
    (hol : old.length = len * esz) (hnl : new.length = n * esz) :
    ∃ (cap : Nat) (cs : Array Value), len + n ≤ cap ∧ cs.toList = (old ++ new) ++ cs.toList.drop (old ++ new).length ∧ cs.size = cap * esz ∧
      (Builtin.append_ #[sT, u] ty #[.slice base len c, .slice ax n cx2]).run P w = .ok (.slice (some ⟨w.heap.size, 0, none⟩) (len + n) cap) (w.drew.alloc (.cells cs e)) := by
  obtain ⟨i, z, hi, hz0, hzz⟩ := zeros_info (σ := fun _ => 0) hy hz
  obtain ⟨i', hi', hsz⟩ := info_of hy hs
  rw [hi] at hi'; cases hi'
  obtain ⟨ib, hib, hbytes⟩ := byOf_spec hy hby w
  rw [run_typeInfo w hi] at hib
  have hib' : i = ib := by injection hib
  rw [← hib'] at hbytes
  have hzsz : z.cells.size = zs.length := by have := (hzz (fun _ => none)).1.length; simpa using this
  let q := Question.appendCap (len + n) c e
  have hcap : len + n ≤ q.cut (w.tape w.drawn q) := cut_append _ _ _ _
  generalize hcc : q.cut (w.tape w.drawn q) = cap at hcap
  let rest := Builtin.zeroCells z.cells (cap - (len + n))
  have hrl : rest.size = (cap - (len + n)) * esz := by simp [rest, Builtin.zeroCells, hzsz, hesz]
  refine ⟨cap, old.toArray ++ new.toArray ++ rest, hcap, by simp, ?_, ?_⟩
  · simp only [Array.size_append, List.size_toArray, hol, hnl, hrl]
    rw [← Nat.add_mul, ← Nat.add_mul]; congr 1; omega
  · have hne : ¬ (len + n ≤ c) := by omega
    have h63 : ¬ (9223372036854775807 < ((len : Int) + (n : Int))) := by omega
    have h48 : ¬ (281474976710656 < Builtin.nextslicecap (len + n) c * i.bytes) := by
      have h1 := nextcap_le hgt hle
      have h2 : i.bytes ≤ 1024 := by omega
      have h3 := Nat.mul_le_mul h1 h2
      omega
    have hu' := und_spec hy hu
    have hu2' := und_spec hy hu2
    subst hsz
    have hcc' : (Question.appendCap (len + n) c e).cut (w.tape w.drawn (Question.appendCap (len + n) c e)) = cap := hcc
    simp [Builtin.append_, run_underlying hu', run_underlying hu2', sizeOf, typeInfo, zeroValue, hi, hz0, Builtin.lenOf, hne, h63, h48, Question.forced, ho, hn, newRow, hcc']
    congr 2
    apply Array.ext'
    simp [rest]

theorem append_fits (hy : Hyp P cx) {sT u e e2 : TypeId} {esz : Nat} {ty : TypeId} (hu : und cx sT = some (.slice e)) (hu2 : und cx u = some (.slice e2)) (hs : szOf cx e = some esz) {b : Addr} {len c : Nat} {ax : Option Addr} {n cx2 : Nat} {w w' : World} (hle : len + n ≤ c)
    {new : List Value} (hn : (Builtin.firstCells esz n (.slice ax n cx2)).run P w = .ok new.toArray w) (hst : (storeCells (b.add (len * esz)) new 0).run P w = .ok () w') :
    (Builtin.append_ #[sT, u] ty #[.slice (some b) len c, .slice ax n cx2]).run P w = .ok (.slice (some b) (len + n) c) w' := by
  obtain ⟨i, hi, hsz⟩ := info_of hy hs
  subst hsz
  simp [Builtin.append_, run_underlying (und_spec hy hu), run_underlying (und_spec hy hu2), sizeOf, typeInfo, hi, Builtin.lenOf, hle, hn, hst]
theorem append_nil0 (hy : Hyp P cx) {sT u e e2 : TypeId} {esz : Nat} {ty : TypeId} (hu : und cx sT = some (.slice e)) (hu2 : und cx u = some (.slice e2)) (hs : szOf cx e = some esz) {ax : Option Addr} {cx2 : Nat} {w : World}
    {new : List Value} (hn : (Builtin.firstCells esz 0 (.slice ax 0 cx2)).run P w = .ok new.toArray w) :
    (Builtin.append_ #[sT, u] ty #[.slice none 0 0, .slice ax 0 cx2]).run P w = .ok (.slice none 0 0) w := by
  obtain ⟨i, hi, hsz⟩ := info_of hy hs
  subst hsz
  simp [Builtin.append_, run_underlying (und_spec hy hu), run_underlying (und_spec hy hu2), sizeOf, typeInfo, hi, Builtin.lenOf, hn]

/-- a new row that begins with told cells -/
theorem grown_sim {ι : Inj} {h : H} {w : World} (hr : Rel cx σ ι h w) {vs : List V} {ws : List Value} {cs : Array Value} {esz cap : Nat} (ty : TypeId) (hv : VRL σ ι vs ws) (h1 : ∀ v ∈ vs, v.one = true) (hcs : cs.toList = ws ++ cs.toList.drop ws.length) (hsz : cs.size = cap * esz) {n : Nat} (hn : n ≤ cap) :
    ∃ ι', VR σ ι' (.sl h.nx 0 n n (some esz)) (.slice (some ⟨w.heap.size, 0, none⟩) n cap) ∧ Rel cx σ ι' (h.push (mkO vs)) (w.drew.alloc (.cells cs ty)) ∧ Ext ι ι' h (h.push (mkO vs)) w (w.drew.alloc (.cells cs ty)) := by
  obtain ⟨a, b, c, d⟩ := mkO_spec vs
  have hr' : Rel cx σ ι h w.drew := hr.drew rfl
  have hle : ws.length ≤ cs.size := by have := congrArg List.length hcs; simp at this; omega
  have := orel_new (cx := cx) w.drew ty a b c d hv h1 hcs hle
  obtain ⟨e, f⟩ := hr'.push (mkO vs) (.cells cs ty) cs.size this
  refine ⟨_, VR.sl_mk (Inj.add_same _ _ _) rfl hn (fun h => (by cases h)) (fun q hq => ?_), e, (Ext.drew ι h w (w.drawn + 1)).trans f⟩
  have hq' : esz = q := by injection hq
  rw [← hq', Nat.zero_add, hsz]
  exact Nat.le_refl _

theorem storeCells_shift (b a i : Nat) : ∀ (vs : List Value) (j : Nat), storeCells ⟨b, a + i, none⟩ vs j = storeCells ⟨b, a, none⟩ vs (i + j)
  | [], _ => rfl
  | v :: vs, j => by
    have ih := storeCells_shift b a i vs (j + 1)
    simp only [storeCells, addr_add, Nat.add_assoc] at ih ⊢
    rw [ih]
theorem s_app (hy : Hyp P cx) {o : Oper} {sT u e e2 : TypeId} {s x : Operand} {s' x' : Opd} {esz by_ : Nat} {zs : List V} {args : Array Operand} (ho : o.op = .call { callee := .builtin .append, args := args, argTypes := #[sT, u] }) (ha : args.toList = [s, x]) (hs' : ofOpd s = some s') (hx : ofOpd x = some x')
    (hu : und cx sT = some (.slice e)) (hu2 : und cx u = some (.slice e2)) (hs : szOf cx e = some esz) (hz : zerosOf cx e = some zs) (hby : byOf cx e = some by_) (hb : by_ ≤ 1024) (hzl : zs.length = esz) (h0 : esz ≠ 0) : Sound cx σ P o (x_app esz s' x') := by
  intro t h k r e0
  have hA : args = #[s, x] := by cases args; simp at ha; subst ha; rfl
  have arm : ∀ (ρ : Operand → Value) (w w' : World) (v : Value), (Builtin.append_ #[sT, u] o.type #[ρ s, ρ x]).run P w = .ok v w' → (execOp ρ o).run P w = .ok (.value v) w' := fun ρ w w' v hv => by
    simp [execOp, ho, hA, resolve, invoke, builtin, hv]
  have top : ∃ (n : Nat) (new : List V), (∃ len, lenK (s'.ev t) (fun l => if l = len then some r else none) = some r ∧ len + n ≤ 1073741824) ∧ new.length = n * esz ∧ doApp h esz (s'.ev t) new n k = some r ∧
      ∀ (ι : Inj) (w : World) (y : Value), Rel cx σ ι h w → VR σ ι (x'.ev t) y → (∃ a c, y = .slice a n c) ∧ (∀ v ∈ new, v.one = true) ∧ ∃ ws : List Value, VRL σ ι new ws ∧ (Builtin.firstCells esz n y).run P w = .ok ws.toArray w := by
    have stp : ∀ len, (lenK (x'.ev t) fun n => h.elems esz (x'.ev t) n fun new => ifK (Nat.ble (Nat.add len n) 1073741824) (doApp h esz (s'.ev t) new n k)) = some r → ∃ (n : Nat) (new : List V), len + n ≤ 1073741824 ∧ new.length = n * esz ∧ doApp h esz (s'.ev t) new n k = some r ∧
        ∀ (ι : Inj) (w : World) (y : Value), Rel cx σ ι h w → VR σ ι (x'.ev t) y → (∃ a c, y = .slice a n c) ∧ (∀ v ∈ new, v.one = true) ∧ ∃ ws : List Value, VRL σ ι new ws ∧ (Builtin.firstCells esz n y).run P w = .ok ws.toArray w := by
      intro len e1
      have fin : ∀ n, (h.elems esz (x'.ev t) n fun new => ifK (Nat.ble (Nat.add len n) 1073741824) (doApp h esz (s'.ev t) new n k)) = some r → (∀ (ι : Inj) (y : Value), VR σ ι (x'.ev t) y → ∃ a c, y = .slice a n c) → ∃ (n : Nat) (new : List V), len + n ≤ 1073741824 ∧ new.length = n * esz ∧ doApp h esz (s'.ev t) new n k = some r ∧
        ∀ (ι : Inj) (w : World) (y : Value), Rel cx σ ι h w → VR σ ι (x'.ev t) y → (∃ a c, y = .slice a n c) ∧ (∀ v ∈ new, v.one = true) ∧ ∃ ws : List Value, VRL σ ι new ws ∧ (Builtin.firstCells esz n y).run P w = .ok ws.toArray w := fun n e2 hy2 => by
        obtain ⟨new, h1, e2, h2⟩ := elems_sim (P := P) (cx := cx) (σ := σ) e2
        obtain ⟨hle, e2⟩ := ifK_some.1 e2
        rw [Nat.ble_eq] at hle
        exact ⟨n, new, hle, h1, e2, fun ι w y hr hv => ⟨hy2 ι y hv, h2 ι w y hr hv⟩⟩
      rcases lenK_some e1 with ⟨hn, e2⟩ | ⟨b, off, n, c, f, hn, e2⟩
      · exact fin 0 e2 fun ι y hv => (by rw [hn, VR.nils] at hv; exact ⟨none, 0, hv⟩)
      · exact fin n e2 fun ι y hv => (by rw [hn] at hv; obtain ⟨l, cc, A, _, hv, _⟩ := hv; exact ⟨_, cc, hv⟩)
    rcases lenK_some e0 with ⟨hn, e1⟩ | ⟨b, off, len, c, f, hn, e1⟩
    · obtain ⟨n, new, q1, q2⟩ := stp 0 e1
      exact ⟨n, new, ⟨0, by rw [hn]; rfl, q1⟩, q2⟩
    · obtain ⟨n, new, q1, q2⟩ := stp len e1
      exact ⟨n, new, ⟨len, by rw [hn]; show (if len = len then some r else none) = _; simp, q1⟩, q2⟩
  obtain ⟨n, new, ⟨len, hlen, hsmall⟩, hnl, e1, hX⟩ := top
  rcases V.onSl_some e1 with ⟨b, off, len', cap, fx, hv, e2⟩ | ⟨_, e2⟩
  · have hll : len' = len := by
      rw [hv] at hlen
      have : (if len' = len then some r else none) = some r := hlen
      by_cases hq : len' = len
      · exact hq
      · rw [if_neg hq] at this; cases this
    subst hll
    cases hble : Nat.ble (Nat.add len' n) cap with
    | true =>
      rw [hble] at e2
      obtain ⟨ob, o', hbb, e3, g1, g2, g3, g4, g5, g6⟩ := stn_some e2
      rw [Nat.ble_eq] at hble
      refine ⟨_, _, e3, fun ι w ρ hr hρ => ?_⟩
      have hS := hρ s s' hs'
      rw [hv] at hS
      obtain ⟨L, c, A, hL, hw, hc1, hc2, hc3, hA⟩ := hS
      obtain ⟨⟨ax, cx2, hxv⟩, hone, ws, hws, hfc⟩ := hX ι w (ρ x) hr (hρ x x' hx)
      obtain ⟨w', m1, m2, m3⟩ := store_sim (P := P) hr hL hbb g1 g2 g3 g4 g5 g6 hws
      refine ⟨_, .slice (some ⟨L.blk, A, none⟩) (len' + n) c, w', ι, arm ρ w w' _ ?_, .inl rfl, ⟨L, c, A, hL, rfl, hc1, hc2, hc3, hA.imp_right fun h => ⟨h.1, by have := h.1; have hle2 : len' + n ≤ cap := hble; omega, h.2.2⟩⟩, m2, m3⟩
      rw [hw, hxv]
      rw [hxv] at hfc
      refine append_fits hy hu hu2 hs (Nat.le_trans hble hc1) hfc ?_
      rcases hA with rfl | ⟨hc0, _, _⟩
      · rw [addr_add, Nat.add_assoc]; exact m1
      · have hle2 : len' + n ≤ cap := hble
        have hn0 : n = 0 := by omega
        have hws0 : ws = [] := List.eq_nil_of_length_eq_zero (by rw [hws.length, hnl, hn0]; omega)
        subst hws0
        have hw' : w = w' := by simpa [storeCells] using m1
        subst hw'
        simp [storeCells]
    | false =>
      rw [hble] at e2
      have hgt : cap < len' + n := by
        rcases Nat.lt_or_ge cap (len' + n) with hq | hq
        · exact hq
        · have : Nat.ble (Nat.add len' n) cap = true := by rw [Nat.ble_eq]; exact hq
          rw [this] at hble; cases hble
      obtain ⟨old, ol1, e3, hld, hold⟩ := ldn_sim (P := P) (cx := cx) (σ := σ) e2
      replace ol1 : old.length = len' * esz := ol1
      -- a new array in the real memory
      have real : ∀ (ι : Inj) (w : World) (ρ : Operand → Value) (h1 : H), Rel cx σ ι h w → Rel cx σ ι h1 w → h1.nx = h.nx → Opds σ ι t ρ → ∀ (L : Loc) (c A : Nat), ι b = some L → ρ s = .slice (some ⟨L.blk, A, none⟩) len' c → c < len' + n → (A = L.off + off ∨ len' = 0) →
          ∃ v' w' ι', (execOp ρ o).run P w = .ok (.value v') w' ∧ VR σ ι' (.sl h.nx 0 (len' + n) (len' + n) (some esz)) v' ∧ Rel cx σ ι' (h1.push (mkO (old ++ new))) w' ∧ Ext ι ι' h1 (h1.push (mkO (old ++ new))) w w' := by
        intro ι w ρ h1 hr hr1 hnx hρ L c A hL hw hcl hA
        have hrd : Rel cx σ ι h w.drew := hr.drew rfl
        obtain ⟨⟨ax, cx2, hxv⟩, hone, ws, hws, hfc⟩ := hX ι w.drew (ρ x) hrd (hρ x x' hx)
        obtain ⟨oone, wo, hwo, hlo0⟩ := hold ι w.drew L hrd hL
        have hlo : (Builtin.firstCells esz len' (.slice (some ⟨L.blk, A, none⟩) len' c)).run P w.drew = .ok wo.toArray w.drew := by
          rcases hA with rfl | hz
          · exact hlo0
          · have hwo0 : wo = [] := List.eq_nil_of_length_eq_zero (by rw [hwo.length, ol1, hz]; omega)
            rw [hwo0, hz]
            simp [Builtin.firstCells, loadCells, loadCellsFrom]
        rw [hxv] at hfc
        obtain ⟨cp, cs, k1, k2, k3, k4⟩ := append_grows (base := some ⟨L.blk, A, none⟩) (len := len') (c := c) (ax := ax) (n := n) (cx2 := cx2) (ty := o.type) hy hu hu2 hs hz hby hb (w := w) hcl hsmall (old := wo) (new := ws) hlo hfc hzl (by rw [hwo.length]; exact ol1) (by rw [hws.length, hnl])
        obtain ⟨ι', m1, m2, m3⟩ := grown_sim hr1 e (hwo.append hws) (fun v hv => by rcases List.mem_append.1 hv with hv | hv; exact oone v hv; exact hone v hv) k2 k3 k1
        rw [hnx] at m1
        exact ⟨_, _, ι', arm ρ w _ _ (by rw [hw, hxv]; exact k4), m1, m2, m3⟩
      cases fx with
      | none =>
        have e4 : k (.sl h.nx 0 (len' + n) (len' + n) (some esz)) (h.push (mkO (old ++ new))) = some r := by
          rw [← app_eq, ← e3]; exact (H.alloc_eq h (mkO (app old new)) (fun r h' => k (.sl r 0 (Nat.add len' n) (Nat.add len' n) (some esz)) h')).symm
        refine ⟨_, _, e4, fun ι w ρ hr hρ => ?_⟩
        have hS := hρ s s' hs'
        rw [hv] at hS
        obtain ⟨L, c, A, hL, hw, hc1, hc2, hc3, hA⟩ := hS
        obtain ⟨v', w', ι', m1, m2, m3, m4⟩ := real ι w ρ h hr hr rfl hρ L c A hL hw (by rw [hc2 rfl]; exact hgt) (hA.imp_right fun h => h.2.1)
        exact ⟨_, v', w', ι', m1, .inl rfl, m2, m3, m4⟩
      | some f =>
        obtain ⟨hf, e3⟩ := ifK_some.1 e3
        obtain ⟨ob, hbb, e3⟩ := H.getK_some e3
        obtain ⟨hcb, e3⟩ := ifK_some.1 e3
        have hoc : ob.isC = true := by cases ob <;> first | rfl | cases hcb
        have hf := Nat.eq_of_beq_eq_true hf
        subst hf
        have e4 : k (.sl h.nx 0 (len' + n) (len' + n) (some f)) ((h.put b .dead).push (mkO (old ++ new))) = some r := by
          rw [← app_eq, ← e3, H.alloc_eq, H.nx_put]; rfl
        refine ⟨_, _, e4, fun ι w ρ hr hρ => ?_⟩
        have hS := hρ s s' hs'
        rw [hv] at hS
        obtain ⟨L, c, A, hL, hw, hc1, hc2, hc3, hA⟩ := hS
        have hoat : ∀ i, i < len' * f → ob.at (off + i) = old[i]? := fun i hi => by
          have hne : Nat.mul len' f ≠ 0 := by have : Nat.mul len' f = len' * f := rfl; omega
          exact (hld ob hbb hne).2.2 i hi
        have hdd : ob ≠ .dead := fun e => by rw [e] at hoc; cases hoc
        by_cases hfit : len' + n ≤ c
        · obtain rfl : A = L.off + off := hA.resolve_right fun h => by omega
          obtain ⟨⟨ax, cx2, hxv⟩, hone, ws, hws, hfc⟩ := hX ι w (ρ x) hr (hρ x x' hx)
          obtain ⟨ca, tyy, fz, q2, q3, q4, q5, q6⟩ := (orel_cells cx σ hoc).1 (hr.obj b L ob hL hbb)
          have hsz := hc3 f rfl
          have hmul : (len' + n) * f = len' * f + n * f := Nat.add_mul _ _ _
          have hmle : (len' + n) * f ≤ c * f := Nat.mul_le_mul_right f hfit
          have hwl : ws.length = n * f := by rw [hws.length, hnl]
          have hone' : ∀ y ∈ ws, y.oneCell' = true := fun y hy => by
            obtain ⟨j, hj, hjx⟩ := List.getElem_of_mem hy
            have hj' : j < new.length := by rw [hnl]; omega
            obtain ⟨z, hz1, hz2⟩ := hws.get (List.getElem?_eq_getElem hj')
            rw [List.getElem?_eq_getElem hj, Option.some.injEq] at hz1
            rw [← hjx, hz1]
            exact oneCell_of hz2 (hone _ (List.getElem_mem hj'))
          obtain ⟨w', c', e1', e2', e3', e4', e5', e6', e7', e8', e9'⟩ := run_stores (P := P) (b := L.blk) (L.off + off) ws (len' * f) w ca q2 (by omega)
            (fun j ha hb => by have := q5 (j - L.off) (by omega); rwa [show L.off + (j - L.off) = j by omega] at this) hone'
          obtain ⟨ma, mb, mc, md⟩ := mkO_spec (old ++ new)
          have hfull : (old ++ new).length = (len' + n) * f := by rw [List.length_append, ol1, hnl, hmul]
          have hle : Le ι (ι.add h.nx ⟨L.blk, L.off + off, L.sz - off⟩) := Inj.add_le hr.none_nx
          obtain ⟨m2, m3⟩ := hr.move (l' := ⟨L.blk, L.off + off, L.sz - off⟩) (o' := mkO (old ++ new)) hL hbb hdd rfl e2' e3' ((orel_cells cx σ ma).2 ⟨c', tyy, fz, e4', by rw [mb, hfull]; show _ ≤ L.sz - off; omega,
            by rw [e5']; show L.off + off + (L.sz - off) ≤ ca.size; omega, fun i hi => (by have hi' : i < L.sz - off := hi; have := q5 (off + i) (by omega); rwa [← Nat.add_assoc] at this), fun i v hvi => by
              by_cases hi : i < (old ++ new).length
              · rw [mc i hi] at hvi
                by_cases hio : i < len' * f
                · rw [List.getElem?_append_left (by omega), ← hoat i hio] at hvi
                  obtain ⟨y, y1, y2, y3⟩ := q6 (off + i) v hvi
                  refine ⟨y, ?_, VR.mono hle _ _ y2, y3⟩
                  show c'[L.off + off + i]? = some y
                  rw [e6', if_neg (by omega), Nat.add_assoc]; exact y1
                · rw [List.getElem?_append_right (by omega), ol1] at hvi
                  obtain ⟨y, y1, y2⟩ := hws.get hvi
                  refine ⟨y, ?_, VR.mono hle _ _ y2, hone v (List.mem_of_getElem? hvi)⟩
                  show c'[L.off + off + i]? = some y
                  rw [e6', if_pos (by omega), show L.off + off + i - (L.off + off + len' * f) = i - len' * f by omega]; exact y1
              · rw [md i (by omega)] at hvi; cases hvi⟩) e7' e8' e9'
          refine ⟨_, .slice (some ⟨L.blk, L.off + off, none⟩) (len' + n) c, w', _, arm ρ w w' _ ?_, .inl rfl, VR.sl_mk (Inj.add_same _ _ _) rfl hfit (fun h => (by cases h)) (fun q hq => ?_), m2, m3⟩
          · rw [hw, hxv]
            rw [hxv] at hfc
            exact append_fits hy hu hu2 hs hfit hfc (by
              rw [addr_add]
              rw [storeCells_shift]; exact e1')
          · have hq' : f = q := by injection hq
            rw [← hq']; show 0 + c * f ≤ L.sz - off; omega
        · obtain ⟨k1, k2⟩ := hr.put (w' := w) (o' := .dead) hL hbb hdd rfl (fun _ _ => rfl) trivial rfl rfl rfl
          obtain ⟨v', w', ι', m1, m2, m3, m4⟩ := real ι w ρ (h.put b .dead) hr k1 (by simp) hρ L c A hL hw (by omega) (hA.imp_right fun h => h.2.1)
          exact ⟨_, v', w', ι', m1, .inl rfl, m2, m3, k2.trans m4⟩
  · obtain ⟨hn, e2⟩ := ifK_some.1 e2
    rw [V.isNils_iff] at hn
    have hl0 : len = 0 := by
      rw [hn] at hlen
      have : (if 0 = len then some r else none) = some r := hlen
      by_cases hq : 0 = len
      · exact hq.symm
      · rw [if_neg hq] at this; cases this
    subst hl0
    cases n with
    | zero =>
      refine ⟨_, _, e2, fun ι w ρ hr hρ => ?_⟩
      have hS := hρ s s' hs'
      rw [hn, VR.nils] at hS
      obtain ⟨⟨ax, cx2, hxv⟩, hone, ws, hws, hfc⟩ := hX ι w (ρ x) hr (hρ x x' hx)
      rw [hxv] at hfc
      exact ⟨_, .slice none 0 0, w, ι, arm ρ w w _ (by rw [hS, hxv]; exact append_nil0 hy hu hu2 hs hfc), .inl rfl, rfl, hr, Ext.refl _ _ _⟩
    | succ n =>
      have e4 : k (.sl h.nx 0 (n + 1) (n + 1) (some esz)) (h.push (mkO new)) = some r := by
        rw [← e2]; exact (H.alloc_eq h (mkO new) (fun r h' => k (.sl r 0 (n + 1) (n + 1) (some esz)) h')).symm
      refine ⟨_, _, e4, fun ι w ρ hr hρ => ?_⟩
      have hS := hρ s s' hs'
      rw [hn, VR.nils] at hS
      have hrd : Rel cx σ ι h w.drew := hr.drew rfl
      obtain ⟨⟨ax, cx2, hxv⟩, hone, ws, hws, hfc⟩ := hX ι w.drew (ρ x) hrd (hρ x x' hx)
      rw [hxv] at hfc
      obtain ⟨cp, cs, k1, k2, k3, k4⟩ := append_grows (base := none) (len := 0) (c := 0) (ax := ax) (n := n + 1) (cx2 := cx2) (ty := o.type) hy hu hu2 hs hz hby hb (w := w) (by omega) hsmall (old := []) (new := ws) (by simp [Builtin.firstCells]) hfc hzl (by simp) (by rw [hws.length, hnl])
      rw [List.nil_append] at k2
      rw [Nat.zero_add] at k1 k4
      obtain ⟨ι', m1, m2, m3⟩ := grown_sim hr e hws hone k2 k3 k1
      exact ⟨_, _, _, ι', arm ρ w _ _ (by rw [hS, hxv]; exact k4), .inl rfl, m1, m2, m3⟩

theorem append_zeros (hy : Hyp P cx) {sT u e : TypeId} {j : IntKind} {esz by_ : Nat} {zs : List V} {ty : TypeId} (hu : und cx sT = some (.slice e)) (hu2 : und cx u = some (.int j)) (hs : szOf cx e = some esz)
    (hz : zerosOf cx e = some zs) (hby : byOf cx e = some by_) (hb : by_ ≤ 1024) {n : Nat} {w : World} (hgt : 0 < n) (hle : n ≤ 1073741824) (hesz : zs.length = esz) (h0 : esz ≠ 0) {z : Value} {i : TypeInfo} (hi : P.info? e = some i) (hz0 : i.zero = some z)
    (hzsz : z.cells.size = zs.length) :
    ∃ (cap : Nat) (cs : Array Value), n ≤ cap ∧ cs.toList = (Builtin.zeroCells z.cells n).toList ++ cs.toList.drop (Builtin.zeroCells z.cells n).toList.length ∧ cs.size = cap * esz ∧
      (Builtin.append_ #[sT, u] ty #[.slice none 0 0, .int j (.ofNat n)]).run P w = .ok (.slice (some ⟨w.heap.size, 0, none⟩) n cap) (w.drew.alloc (.cells cs e)) := by
  obtain ⟨i', hi', hsz⟩ := info_of hy hs
  rw [hi] at hi'; cases hi'
  obtain ⟨ib, hib, hbytes⟩ := byOf_spec hy hby w
  rw [run_typeInfo w hi] at hib
  have hib' : i = ib := by injection hib
  rw [← hib'] at hbytes
  let q := Question.appendCap (0 + n) 0 e
  have hcap : 0 + n ≤ q.cut (w.tape w.drawn q) := cut_append _ _ _ _
  generalize hcc : q.cut (w.tape w.drawn q) = cap at hcap
  let rest := Builtin.zeroCells z.cells (cap - (0 + n))
  have hrl : rest.size = (cap - (0 + n)) * esz := by simp [rest, Builtin.zeroCells, hzsz, hesz]
  have hnl : (Builtin.zeroCells z.cells n).size = n * esz := by simp [Builtin.zeroCells, hzsz, hesz]
  refine ⟨cap, Builtin.zeroCells z.cells n ++ rest, by omega, by simp, ?_, ?_⟩
  · rw [Array.size_append, hnl, hrl, ← Nat.add_mul]; congr 1; omega
  · have hne : ¬ (0 + n ≤ 0) := by omega
    have h63 : ¬ (9223372036854775807 < (n : Int)) := by omega
    have hng : ¬ ((n : Int) < 0) := by omega
    have hmul : ¬ (281474976710656 < n * i.bytes) := by
      have h2 : i.bytes ≤ 1024 := by omega
      have h3 := Nat.mul_le_mul hle h2
      omega
    have hmulI : ¬ ((281474976710656 : Int) < (n : Int) * (i.bytes : Int)) := by
      rw [← Int.natCast_mul]; omega
    have h48 : ¬ (281474976710656 < Builtin.nextslicecap n 0 * i.bytes) := by
      have h1 := nextcap_le (need := n) (c := 0) hgt hle
      have h2 : i.bytes ≤ 1024 := by omega
      have h3 := Nat.mul_le_mul h1 h2
      omega
    have hu' := und_spec hy hu
    have hu2' := und_spec hy hu2
    have hwr : IntKind.i64.wrap (n : Int) = n := wrap_i64 (by omega) (by omega)
    have hne0 : ¬ n = 0 := by omega
    have hle0 : ¬ ((n : Int) ≤ 0) := by omega
    have hmax : max (n : Int) 0 = n := by omega
    have hnz : ¬ (n * esz = 0) := by rw [Nat.mul_eq_zero]; omega
    subst hsz
    have hcc' : (Question.appendCap n 0 e).cut (w.tape w.drawn (Question.appendCap n 0 e)) = cap := by have := hcc; simpa [q] using this
    have hsz0 : ¬ i.size = 0 := h0
    simp [Builtin.append_, run_underlying hu', run_underlying hu2', sizeOf, typeInfo, zeroValue, hi, hz0, Builtin.lenOf, hne, h63, h48, Question.forced, newRow, hcc', asInt, asIntOf, hwr, hng, hmulI, hne0, hsz0, hle0, hmax, Builtin.firstCells]
    rw [if_neg hnz]
    have hre : rest = Builtin.zeroCells z.cells (cap - n) := by show Builtin.zeroCells z.cells (cap - (0 + n)) = _; rw [Nat.zero_add]
    rw [hre]
theorem s_appz (hy : Hyp P cx) {o : Oper} {sT u e : TypeId} {jk : IntKind} {s x : Operand} {s' x' : Opd} {esz by_ : Nat} {zs : List V} {args : Array Operand} (ho : o.op = .call { callee := .builtin .append, args := args, argTypes := #[sT, u] }) (ha : args.toList = [s, x]) (hs' : ofOpd s = some s') (hx : ofOpd x = some x')
    (hu : und cx sT = some (.slice e)) (hu2 : und cx u = some (.int jk)) (hs : szOf cx e = some esz) (hz : zerosOf cx e = some zs) (hby : byOf cx e = some by_) (hb : by_ ≤ 1024) (hzl : zs.length = esz) (h0 : esz ≠ 0) : Sound cx σ P o (x_appz esz zs s' x') := by
  intro t h k r e0
  have hA : args = #[s, x] := by cases args; simp at ha; subst ha; rfl
  have arm : ∀ (ρ : Operand → Value) (w w' : World) (v : Value), (Builtin.append_ #[sT, u] o.type #[ρ s, ρ x]).run P w = .ok v w' → (execOp ρ o).run P w = .ok (.value v) w' := fun ρ w w' v hv => by
    simp [execOp, ho, hA, resolve, invoke, builtin, hv]
  obtain ⟨j, m, hm, e0⟩ := V.nat_some e0
  obtain ⟨hn, e0⟩ := ifK_some.1 e0
  obtain ⟨hp, e0⟩ := ifK_some.1 e0
  obtain ⟨hle, e0⟩ := ifK_some.1 e0
  rw [V.isNils_iff] at hn
  rw [ltb_iff] at hp
  rw [Nat.ble_eq] at hle
  have e4 : k (.sl h.nx 0 m m (some esz)) (h.push (mkO (repl zs m))) = some r := by
    rw [← e0]; exact (H.alloc_eq h (mkO (repl zs m)) (fun r h' => k (.sl r 0 m m (some esz)) h')).symm
  refine ⟨_, _, e4, fun ι w ρ hr hρ => ?_⟩
  have hS := hρ s s' hs'
  rw [hn, VR.nils] at hS
  have hM := nat_of hm (hρ x x' hx)
  obtain ⟨i, z, hi, hz0, hzz⟩ := zeros_info (σ := σ) hy hz
  have hzsz : z.cells.size = zs.length := by have := (hzz ι).1.length; simpa using this
  have hrs := repl_sim (hzz ι).1 m (by omega)
  have hzc : (Builtin.zeroCells z.cells m).toList = ((Array.range (m * zs.length)).map (z.cells[· % z.cells.size]!)).toList := by rw [Builtin.zeroCells, hzsz]
  rw [← hzc] at hrs
  by_cases hjj : ρ x = .int j (.ofNat m)
  · obtain ⟨cp, cs, k1, k2, k3, k4⟩ := append_zeros (j := jk) (ty := o.type) hy hu hu2 hs hz hby hb (w := w) hp hle hzl h0 hi hz0 hzsz
    obtain ⟨ι', m1, m2, m3⟩ := grown_sim hr e hrs (fun v hv => (hzz ι).2 v (repl_mem hv)) k2 k3 k1
    refine ⟨_, _, _, ι', arm ρ w _ _ ?_, .inl rfl, m1, m2, m3⟩
    rw [hS, hM]
    exact k4
  · exact absurd hM hjj
theorem s_capx (hy : Hyp P cx) {o : Oper} {ty e : TypeId} {x : Operand} {y : Opd} {args : Array Operand} {tys : Array TypeId} (ho : o.op = .call { callee := .builtin .cap, args := args, argTypes := tys }) (ha : args.toList = [x]) (ht : tys.toList[0]? = some ty) (hx : ofOpd x = some y) (hu : und cx ty = some (.slice e)) :
    Sound cx σ P o (x_capx y) := by
  intro t h k r e0
  have ht' : tys[0]? = some ty := by simpa using ht
  have hA : args = #[x] := by cases args; simp at ha; subst ha; rfl
  have run0 : ∀ (ρ : Operand → Value) (a : Option Addr) (n c : Nat) (w : World), ρ x = .slice a n c → (execOp ρ o).run P w = .ok (.value (goInt c)) w := fun ρ a n c w hv => by
    simp [execOp, ho, hA, resolve, invoke, builtin, Builtin.cap_, ht', hv, run_underlying (und_spec hy hu)]
  rcases V.onSl_some e0 with ⟨b, off, n, c, f, hn, e1⟩ | ⟨_, e1⟩
  · cases f with
    | some f => cases e1
    | none =>
      refine ⟨_, h, e1, OSim.same fun ι w ρ hr hρ => ⟨goInt c, ?_, rfl⟩⟩
      have h1 := hρ x y hx
      rw [hn] at h1
      obtain ⟨l, c', A, _, hw, _, hc, _⟩ := h1
      rw [← hc rfl]
      exact run0 ρ _ n c' w hw
  · obtain ⟨hn, e1⟩ := ifK_some.1 e1
    rw [V.isNils_iff] at hn
    refine ⟨_, h, e1, OSim.same fun ι w ρ hr hρ => ⟨goInt 0, ?_, rfl⟩⟩
    have h1 := hρ x y hx
    rw [hn, VR.nils] at h1
    exact run0 ρ none 0 0 w h1
theorem s_copy (hy : Hyp P cx) {o : Oper} {sT u e : TypeId} {d s : Operand} {d' s' : Opd} {esz : Nat} {args : Array Operand} {tys : Array TypeId} (ho : o.op = .call { callee := .builtin .copy, args := args, argTypes := tys }) (ha : args.toList = [d, s]) (ht : tys.toList[0]? = some sT) (hd' : ofOpd d = some d') (hs' : ofOpd s = some s')
    (hu : und cx sT = some (.slice e)) (hs : szOf cx e = some esz) : Sound cx σ P o (x_copy esz d' s') := by
  intro t h k r e0
  have ht' : tys[0]? = some sT := by simpa using ht
  have hA : args = #[d, s] := by cases args; simp at ha; subst ha; rfl
  have lens : ∀ {v : V} {kk : Nat → R}, lenK v kk = some r → ∃ n, kk n = some r ∧ ∀ (ι : Inj) (y : Value), VR σ ι v y → ∃ a c, y = .slice a n c := fun {v kk} e => by
    rcases lenK_some e with ⟨hn, e⟩ | ⟨b, off, n, c, f, hn, e⟩
    · exact ⟨0, e, fun ι y hv => (by rw [hn, VR.nils] at hv; exact ⟨none, 0, hv⟩)⟩
    · exact ⟨n, e, fun ι y hv => (by rw [hn] at hv; obtain ⟨l, cc, A, _, hv, _⟩ := hv; exact ⟨_, cc, hv⟩)⟩
  have e0' : (lenK (d'.ev t) fun dn => lenK (s'.ev t) fun sn => h.elems esz (s'.ev t) (Nat.min sn dn) fun cs =>
    (d'.ev t).onSl (k (.int .i64 (.ofNat (Nat.min sn dn))) h) fun b o _ _ _ => h.stn b o cs fun h' => k (.int .i64 (.ofNat (Nat.min sn dn))) h') = some r := e0
  obtain ⟨dn, e1, hdl⟩ := lens e0'
  obtain ⟨sn, e2, hsl⟩ := lens e1
  obtain ⟨vs, hl, e3, hvs⟩ := elems_sim (P := P) (cx := cx) (σ := σ) e2
  have arm : ∀ (ρ : Operand → Value) (w w' : World) (da sa : Option Addr) (dc sc : Nat) (ws : List Value), ρ d = .slice da dn dc → ρ s = .slice sa sn sc → (Builtin.firstCells esz (Nat.min sn dn) (ρ s)).run P w = .ok ws.toArray w →
      ((match da with | some a => storeCells a ws | none => pure ()) : Sem Unit).run P w = .ok () w' → (execOp ρ o).run P w = .ok (.value (goInt (Nat.min sn dn))) w' := fun ρ w w' da sa dc sc ws h1 h2 h3 h4 => by
    rw [h2] at h3
    have : (Builtin.copy_ tys o.type #[ρ d, ρ s]).run P w = .ok (goInt (Nat.min sn dn)) w' := by
      rw [h1, h2]
      cases da with
      | none =>
        simp only at h4
        have hw : w = w' := by simpa using h4
        subst hw
        simp [Builtin.copy_, ht', run_underlying (und_spec hy hu), Builtin.lenOf, szOf_spec hy hs, h3]
      | some a => simp [Builtin.copy_, ht', run_underlying (und_spec hy hu), Builtin.lenOf, szOf_spec hy hs, h3, h4]
    simp [execOp, ho, hA, resolve, invoke, builtin, this]
  rcases V.onSl_some e3 with ⟨b, off, n, c, f, hn, e4⟩ | ⟨hne, e4⟩
  · obtain ⟨ob, o', hbb, e5, g1, g2, g3, g4, g5, g6⟩ := stn_some e4
    refine ⟨_, _, e5, fun ι w ρ hr hρ => ?_⟩
    obtain ⟨hone, ws, hws, hfc⟩ := hvs ι w (ρ s) hr (hρ s s' hs')
    obtain ⟨da, dc, hd1⟩ := hdl ι (ρ d) (hρ d d' hd')
    obtain ⟨sa, sc, hs1⟩ := hsl ι (ρ s) (hρ s s' hs')
    have hD := hρ d d' hd'
    rw [hn] at hD
    obtain ⟨L, cc, A, hL, hD, _, _, _, hAA⟩ := hD
    rw [hd1] at hD
    injection hD with hda hdn _
    obtain ⟨w', m1, m2, m3⟩ := store_sim (P := P) hr hL hbb g1 g2 g3 g4 g5 g6 hws
    refine ⟨_, _, w', ι, arm ρ w w' da sa dc sc ws hd1 hs1 hfc ?_, .inl rfl, rfl, m2, m3⟩
    rw [hda]
    rcases hAA with rfl | ⟨_, hz, _⟩
    · exact m1
    · have hmin : Nat.min sn dn = 0 := by rw [hdn, hz]; exact Nat.min_zero sn
      have hws0 : ws = [] := List.eq_nil_of_length_eq_zero (by rw [hws.length, hl, hmin]; omega)
      subst hws0
      have hw' : w = w' := by simpa [storeCells] using m1
      subst hw'
      simp [storeCells]
  · refine ⟨_, _, e4, fun ι w ρ hr hρ => ?_⟩
    obtain ⟨hone, ws, hws, hfc⟩ := hvs ι w (ρ s) hr (hρ s s' hs')
    obtain ⟨da, dc, hd1⟩ := hdl ι (ρ d) (hρ d d' hd')
    obtain ⟨sa, sc, hs1⟩ := hsl ι (ρ s) (hρ s s' hs')
    have hdn : d'.ev t = .nils := by
      rcases lenK_some e0' with ⟨hn, _⟩ | ⟨b, off, n, c, f, hn, _⟩
      · exact hn
      · exact absurd hn (hne b off n c f)
    have hD := hρ d d' hd'
    rw [hdn, VR.nils, hd1] at hD
    injection hD with hda _ _
    exact ⟨_, _, w, ι, arm ρ w w da sa dc sc ws hd1 hs1 hfc (by rw [hda]; rfl), .inl rfl, rfl, hr, Ext.refl _ _ _⟩

theorem s_clear (hy : Hyp P cx) {o : Oper} {sT e : TypeId} {x : Operand} {x' : Opd} {zs : List V} {args : Array Operand} {tys : Array TypeId} (ho : o.op = .call { callee := .builtin .clear, args := args, argTypes := tys }) (ha : args.toList = [x]) (ht : tys.toList[0]? = some sT) (hx : ofOpd x = some x')
    (hu : und cx sT = some (.slice e)) (hz : zerosOf cx e = some zs) (h0 : zs ≠ []) : Sound cx σ P o (x_clear zs x') := by
  intro t h k r e0
  have ht' : tys[0]? = some sT := by simpa using ht
  have hA : args = #[x] := by cases args; simp at ha; subst ha; rfl
  rcases V.onSl_some e0 with ⟨b, off, n, c, f, hn, e4⟩ | ⟨hne, e4⟩
  · obtain ⟨ob, o', hbb, e5, g1, g2, g3, g4, g5, g6⟩ := stn_some e4
    refine ⟨_, _, e5, fun ι w ρ hr hρ => ?_⟩
    have hX := hρ x x' hx
    rw [hn] at hX
    obtain ⟨L, cc, A, hL, hX, _, _, _, hAA⟩ := hX
    obtain ⟨i, z, hi, hz0, hzz⟩ := zeros_info (σ := σ) hy hz
    have hzsz : z.cells.size = zs.length := by have := (hzz ι).1.length; simpa using this
    have hrs := repl_sim (hzz ι).1 n (by intro hl; exact h0 (List.eq_nil_of_length_eq_zero hl))
    have hzc : (Builtin.zeroCells z.cells n).toList = ((Array.range (n * zs.length)).map (z.cells[· % z.cells.size]!)).toList := by rw [Builtin.zeroCells, hzsz]
    rw [← hzc] at hrs
    obtain ⟨w', m1, m2, m3⟩ := store_sim (P := P) hr hL hbb g1 g2 g3 g4 g5 g6 hrs
    have hzv : ∀ w : World, (zeroValue e).run P w = .ok z w := fun w => by simp [zeroValue, run_typeInfo w hi, hz0]
    refine ⟨_, .tuple #[], w', ι, ?_, .inl rfl, VR.tup.2 ⟨#[], rfl, rfl⟩, m2, m3⟩
    have : (Builtin.clear_ tys o.type #[ρ x]).run P w = .ok (.tuple #[]) w' := by
      rw [hX]
      cases n with
      | zero =>
        have hw : w = w' := by
          have : (Builtin.zeroCells z.cells 0).toList = [] := by simp [Builtin.zeroCells]
          rw [this] at m1
          simpa [storeCells] using m1
        simp [Builtin.clear_, ht', run_underlying (und_spec hy hu), hw]
      | succ n =>
        obtain rfl : A = L.off + off := hAA.resolve_right fun h => by omega
        simp [Builtin.clear_, ht', run_underlying (und_spec hy hu), hzv, m1]
    simp [execOp, ho, hA, resolve, invoke, builtin, this]
  · cases e4
end
end Go.Ab
