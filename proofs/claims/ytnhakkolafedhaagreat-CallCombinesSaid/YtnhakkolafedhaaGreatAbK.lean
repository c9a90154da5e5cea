/- Each operation, seventh part: maps, at the operation. -/
import Derived.Test.YtnhakkolafedhaaGreatAbJ
set_option linter.unusedVariables false
set_option linter.unusedSimpArgs false
namespace Go.Ab
section
variable {P : Program} {cx : Cx} {σ : Nat → Int}

theorem vrl1 {ι : Inj} {v : V} {x : Value} (h : VR σ ι v x) : VRL σ ι [v] [x] := ⟨x, [], rfl, h, rfl⟩

theorem keyShape_spec {t : TypeId} {sh : List Bool} (h : keyShape cx t = some sh) : shapeOf cx 2 t = some sh ∧ (∀ n e, und cx t ≠ some (.array n e)) ∧ (∃ d, und cx t = some d ∧ ((∃ q, d = .int q) ∨ d = .bool ∨ ∃ fs, d = .struct fs)) := by
  unfold keyShape at h
  split at h
  · rename_i hu; exact ⟨h, fun n e hh => (by rw [hu] at hh; cases hh), _, hu, .inr (.inl rfl)⟩
  · rename_i q hu; exact ⟨h, fun n e hh => (by rw [hu] at hh; cases hh), _, hu, .inl ⟨q, rfl⟩⟩
  · rename_i fs hu; exact ⟨h, fun n e hh => (by rw [hu] at hh; cases hh), _, hu, .inr (.inr ⟨fs, rfl⟩)⟩
  · cases h

/-- a key is looked for: the model's findKey -/
theorem findKey_run (hy : Hyp P cx) {kt : TypeId} {sh : List Bool} (hsh : keyShape cx kt = some sh) {ι : Inj} {key : V} {x : Value} (hx : VR σ ι key x) (w : World) {es : List (V × V)} {f : Option (Nat × V)} (hf : Fnd cx σ kt sh key es f)
    {es' : List MapEntry} (hk : VRL σ ι (es.map (·.1)) (es'.map (·.key))) (hv : VRL σ ι (es.map (·.2)) (es'.map (·.val))) :
    ∃ g : Option (Nat × Value), (Instr.findKey kt x es').run P w = .ok g w ∧ (match f, g with | none, none => True | some (i, v), some (j, u) => j = i ∧ VR σ ι v u ∧ (∃ e, es'[i]? = some e ∧ e.key = x ∧ Instr.sameBits 10000 x x = true) | _, _ => False) := by
  obtain ⟨h1, _, d, hd, hdd⟩ := keyShape_spec hsh
  obtain ⟨g, r1, r2, r3⟩ := Fnd.real hy h1 hx w hf hk hv 0
  refine ⟨g, ?_, ?_⟩
  · have hu := und_spec hy hd
    rcases hdd with ⟨q, rfl⟩ | rfl | ⟨fs, rfl⟩
    · simp [Instr.findKey, run_underlying hu, r3 _ hd (.inl ⟨q, rfl⟩)]
    · simp [Instr.findKey, run_underlying hu, r3 _ hd (.inr rfl)]
    · cases es' with
      | nil =>
        simp [Instr.findAsking] at r1
        simp [Instr.findKey, run_underlying hu, Instr.findNow, ← r1]
      | cons e es' => simp [Instr.findKey, run_underlying hu, Instr.findNow, Instr.sameNow, r1]
  · cases f with
    | none => cases g with
      | none => trivial
      | some q => exact r2.elim
    | some p => obtain ⟨i, v⟩ := p; cases g with
      | none => exact r2
      | some q => obtain ⟨j, u⟩ := q; obtain ⟨a, b, c⟩ := r2; exact ⟨by omega, b, c⟩

theorem mapK_some {h : H} {r : Pos} {k : List (V × V) → R} {q : V × H} (e : h.mapK r k = some q) : ∃ es, h.get r = some (.mp es) ∧ k es = some q := by
  obtain ⟨o, ho, e⟩ := H.getK_some e
  cases o <;> first | exact ⟨_, ho, e⟩ | cases e

theorem run_getObj_map {w : World} {b : Nat} {es : Array MapEntry} {clk : Nat} (h : w.heap[b]? = some (.map es clk)) : (getObj b).run P w = .ok (.map es clk) w := by
  simp [getObj, Sem.run, h]
theorem run_setObj_map {w : World} {b : Nat} {es : Array MapEntry} {clk : Nat} (h : w.heap[b]? = some (.map es clk)) (o : Obj) : (setObj b o).run P w = .ok () { w with heap := w.heap.setIfInBounds b o } := by
  simp [setObj, Sem.run, h]

theorem lkR_some {zero : V} {ok : Bool} {f : Option V} {k : V → R} {r : V × H} (e : lkR zero ok f k = some r) : k (if ok then .tup [f.getD zero, .bool f.isSome] else f.getD zero) = some r := by
  cases ok <;> cases f <;> exact e

theorem s_lkp {S : Sy} (hS : SyOk σ P S) (hy : Hyp P cx) {o : Oper} {t0 kt e : TypeId} {x i : Operand} {x' i' : Opd} {ok ag : Bool} {sh : List Bool} {zero : V} (ho : o.op = .lookup t0 x i ok) (hx : ofOpd x = some x') (hi : ofOpd i = some i') (hu : und cx t0 = some (.map kt e))
    (hg : aggOf cx kt = some ag) (hsh : keyShape cx kt = some sh) (hz : zeroOf cx e = some zero) : Sound cx σ P o (x_lkp S ag sh zero ok x' i') := by
  intro t h k r e0
  obtain ⟨e0, hkey⟩ := keyOk_some (σ := σ) hg e0
  have hck : ∀ (ι : Inj) (ρ : Operand → Value) (em : Bool) (w : World), Opds σ ι t ρ → (Instr.checkKey em 10000 kt (ρ i)).run P w = .ok () w := fun ι ρ em w hρ => by
    obtain ⟨as, h1, h2⟩ := hkey ι (ρ i) (hρ i i' hi)
    exact checkKey_shape hy 2 kt sh (keyShape_spec hsh).1 (keyShape_spec hsh).2.1 (by omega) (ρ i) as em 10000 w (by omega) h1 h2
  rcases V.onMap_some e0 with ⟨b, hm, e0⟩ | ⟨_, e0⟩
  · obtain ⟨es, hb, e0⟩ := mapK_some e0
    obtain ⟨f, e0, hf⟩ := findK_some hS hg e0
    refine ⟨_, h, lkR_some e0, OSim.same fun ι w ρ hr hρ => ?_⟩
    have h1 := hρ x x' hx
    rw [hm] at h1
    obtain ⟨l, hl, hw⟩ := h1
    obtain ⟨es', clk, g1, g2, g3⟩ := hr.obj b l _ hl hb
    obtain ⟨g, r1, r2⟩ := findKey_run hy hsh (hρ i i' hi) w hf (es' := es'.toList) g2 g3
    obtain ⟨z, hz1, hz2⟩ := zeroOf_spec (σ := σ) hy hz w
    refine ⟨if ok then .tuple #[(g.map (·.2)).getD z, .bool g.isSome] else (g.map (·.2)).getD z, ?_, ?_⟩
    · have : (Instr.lookup t0 (ρ x) (ρ i) ok).run P w = .ok (if ok then .tuple #[(g.map (·.2)).getD z, .bool g.isSome] else (g.map (·.2)).getD z) w := by
        cases g with
        | none => simp [Instr.lookup, run_underlying (und_spec hy hu), hw, run_getObj_map g1, hck ι ρ _ w hρ, r1, hz1]
        | some q => simp [Instr.lookup, run_underlying (und_spec hy hu), hw, run_getObj_map g1, hck ι ρ _ w hρ, r1]
      simp only [execOp, ho, Sem.run_bind, this, Result.andThen_ok, Sem.run_pure]
    · have key : VR σ ι ((f.map (·.2)).getD zero) ((g.map (·.2)).getD z) ∧ f.isSome = g.isSome := by
        cases f with
        | none => cases g with
          | none => exact ⟨hz2 ι, rfl⟩
          | some q => exact r2.elim
        | some p => cases g with
          | none => exact r2.elim
          | some q => exact ⟨r2.2.1, rfl⟩
      cases ok with
      | false => exact key.1
      | true =>
        refine VR.tup.2 ⟨_, rfl, ?_⟩
        refine ⟨_, _, rfl, key.1, _, [], rfl, ?_, rfl⟩
        rw [← key.2]; simp; rfl
  · obtain ⟨hn, e0⟩ := ifK_some.1 e0
    rw [V.isNilm_iff] at hn
    refine ⟨_, h, lkR_some e0, OSim.same fun ι w ρ hr hρ => ?_⟩
    have h1 := hρ x x' hx
    rw [hn, VR.nilm] at h1
    obtain ⟨z, hz1, hz2⟩ := zeroOf_spec (σ := σ) hy hz w
    have hfk : (Instr.findKey kt (ρ i) []).run P w = .ok none w := by
      obtain ⟨_, _, d, hd, _⟩ := keyShape_spec hsh
      simp [Instr.findKey, run_underlying (und_spec hy hd), Instr.findNow]
    refine ⟨if ok then .tuple #[z, .bool false] else z, ?_, ?_⟩
    · have : (Instr.lookup t0 (ρ x) (ρ i) ok).run P w = .ok (if ok then .tuple #[z, .bool false] else z) w := by
        simp [Instr.lookup, run_underlying (und_spec hy hu), h1, hck ι ρ _ w hρ, hfk, hz1]
      simp only [execOp, ho, Sem.run_bind, this, Result.andThen_ok, Sem.run_pure]
    · cases ok with
      | false => exact hz2 ι
      | true => exact VR.tup.2 ⟨_, rfl, _, _, rfl, hz2 ι, _, [], rfl, rfl, rfl⟩

theorem modify_map_const {α β : Type} (g : α → β) (f : α → α) (u : β) (hg : ∀ e, g (f e) = u) : ∀ (l : List α) (i : Nat), (l.modify i f).map g = (l.map g).set i u
  | [], i => by cases i <;> simp
  | a :: l, 0 => by simp [hg]
  | a :: l, i + 1 => by simpa using modify_map_const g f u hg l i

theorem map_put {ι : Inj} {h : H} {w : World} (hr : Rel cx σ ι h w) {b : Pos} {l : Loc} {es es2 : List (V × V)} {es' es2' : Array MapEntry} {clk clk2 : Nat} (hl : ι b = some l) (hb : h.get b = some (.mp es)) (_hw : w.heap[l.blk]? = some (.map es' clk))
    (h1 : VRL σ ι (es2.map (·.1)) (es2'.toList.map (·.key))) (h2 : VRL σ ι (es2.map (·.2)) (es2'.toList.map (·.val))) :
    Rel cx σ ι (h.put b (.mp es2)) { w with heap := w.heap.setIfInBounds l.blk (.map es2' clk2) } ∧ Ext ι ι h (h.put b (.mp es2)) w { w with heap := w.heap.setIfInBounds l.blk (.map es2' clk2) } := by
  have hlt := (hr.bound b l hl).2
  refine hr.put hl hb (by simp) (by simp) (fun B hB => by simp [Ne.symm hB]) ⟨es2', clk2, ?_, h1, h2⟩ rfl rfl rfl
  show (w.heap.setIfInBounds l.blk _)[l.blk]? = _
  simp [hlt]

theorem s_mset {S : Sy} (hS : SyOk σ P S) (hy : Hyp P cx) {o : Oper} {t0 kt e : TypeId} {m key x : Operand} {m' key' x' : Opd} {ag : Bool} {sh : List Bool} (ho : o.op = .mapUpdate t0 m key x ∨ o.op = .insert t0 m key x) (hm : ofOpd m = some m') (hk : ofOpd key = some key') (hx : ofOpd x = some x')
    (hu : und cx t0 = some (.map kt e)) (hg : aggOf cx kt = some ag) (hsh : keyShape cx kt = some sh) : Sound cx σ P o (x_mset S ag sh m' key' x') := by
  intro t h k r e0
  obtain ⟨e0, hkey⟩ := keyOk_some (σ := σ) hg e0
  rcases V.onMap_some e0 with ⟨b, hmm, e0⟩ | ⟨_, e0⟩
  · obtain ⟨es, hb, e0⟩ := mapK_some e0
    obtain ⟨f, es2, e0, hf, hes⟩ := setKK_some hS hg e0
    refine ⟨_, _, e0, fun ι w ρ hr hρ => ?_⟩
    have h1 := hρ m m' hm
    rw [hmm] at h1
    obtain ⟨l, hl, hw⟩ := h1
    obtain ⟨es', clk, g1, g2, g3⟩ := hr.obj b l _ hl hb
    obtain ⟨g, r1, r2⟩ := findKey_run hy hsh (hρ key key' hk) w hf (es' := es'.toList) g2 g3
    have hck : (Instr.checkKey false 10000 kt (ρ key)).run P w = .ok () w := by
      obtain ⟨as, h1, h2⟩ := hkey ι (ρ key) (hρ key key' hk)
      exact checkKey_shape hy 2 kt sh (keyShape_spec hsh).1 (keyShape_spec hsh).2.1 (by omega) (ρ key) as false 10000 w (by omega) h1 h2
    have hk' := hρ key key' hk
    have hx' := hρ x x' hx
    have main : ∃ w', (Instr.mapUpdate t0 (ρ m) (ρ key) (ρ x)).run P w = .ok () w' ∧ Rel cx σ ι (h.put b (.mp es2)) w' ∧ Ext ι ι h (h.put b (.mp es2)) w w' := by
      cases f with
      | none =>
        cases g with
        | some q => exact r2.elim
        | none =>
          simp only at hes
          subst hes
          obtain ⟨a1, a2⟩ := map_put (clk2 := clk + 1) (es2' := es'.push { key := ρ key, val := ρ x, born := clk }) (es2 := es ++ [(key'.ev t, x'.ev t)]) hr hl hb g1 (by simpa using g2.append (vrl1 hk')) (by simpa using g3.append (vrl1 hx'))
          refine ⟨_, ?_, a1, a2⟩
          simp [Instr.mapUpdate, run_underlying (und_spec hy hu), hw, run_getObj_map g1, hck, r1, run_setObj_map g1]
      | some p =>
        obtain ⟨i, v⟩ := p
        cases g with
        | none => exact r2.elim
        | some q =>
          obtain ⟨j, u⟩ := q
          obtain ⟨rfl, _, e1, he1, he2, he3⟩ := r2
          obtain ⟨rfl, hi⟩ := hes
          have k1 : VRL σ ι ((es.set j (key'.ev t, x'.ev t)).map (·.1)) ((es'.modify j fun e => { e with key := ρ key, val := ρ x }).toList.map (·.key)) := by
            rw [Array.toList_modify, modify_map_const (fun e : MapEntry => e.key) (fun e => { e with key := ρ key, val := ρ x }) (ρ key) (fun e => rfl), List.map_set]; exact g2.set j hk'
          have k2 : VRL σ ι ((es.set j (key'.ev t, x'.ev t)).map (·.2)) ((es'.modify j fun e => { e with key := ρ key, val := ρ x }).toList.map (·.val)) := by
            rw [Array.toList_modify, modify_map_const (fun e : MapEntry => e.val) (fun e => { e with key := ρ key, val := ρ x }) (ρ x) (fun e => rfl), List.map_set]; exact g3.set j hx'
          obtain ⟨a1, a2⟩ := map_put (clk2 := clk) hr hl hb g1 k1 k2
          refine ⟨_, ?_, a1, a2⟩
          have he1' : es'[j]? = some e1 := by simpa using he1
          have hst : (Instr.keyThatStays (((es'[j]?).map (·.key)).getD (ρ key)) (ρ key)).run P w = .ok (ρ key) w := by
            rw [he1']; simp only [Option.map_some, Option.getD_some, he2]
            unfold Instr.keyThatStays
            rw [if_pos he3]; rfl
          simp only [Instr.mapUpdate, Sem.run_bind, run_underlying (und_spec hy hu), Result.andThen_ok, hw, run_getObj_map g1, hck, r1, hst, run_setObj_map g1]
    obtain ⟨w', m1, m2, m3⟩ := main
    refine ⟨.skip, undef, w', ι, ?_, .inr ⟨rfl, rfl⟩, VR.tup.2 ⟨#[], rfl, rfl⟩, m2, m3⟩
    rcases ho with ho | ho <;> simp only [execOp, ho, Sem.run_bind, m1, Result.andThen_ok, Sem.run_pure]
  · cases e0

theorem s_del {S : Sy} (hS : SyOk σ P S) (hy : Hyp P cx) {o : Oper} {t0 kt e : TypeId} {m key : Operand} {m' key' : Opd} {ag : Bool} {sh : List Bool} {args : Array Operand} {tys : Array TypeId} (ho : o.op = .call { callee := .builtin .delete, args := args, argTypes := tys }) (ha : args.toList = [m, key]) (ht : tys.toList[0]? = some t0)
    (hm : ofOpd m = some m') (hk : ofOpd key = some key') (hu : und cx t0 = some (.map kt e)) (hg : aggOf cx kt = some ag) (hsh : keyShape cx kt = some sh) : Sound cx σ P o (x_del S ag sh m' key') := by
  intro t h k r e0
  have ht' : tys[0]? = some t0 := by simpa using ht
  have hA : args = #[m, key] := by cases args; simp at ha; subst ha; rfl
  obtain ⟨e0, hkey⟩ := keyOk_some (σ := σ) hg e0
  rcases V.onMap_some e0 with ⟨b, hmm, e0⟩ | ⟨_, e0⟩
  · obtain ⟨es, hb, e0⟩ := mapK_some e0
    obtain ⟨f, es2, e0, hf, hes⟩ := delKK_some hS hg e0
    refine ⟨_, _, e0, fun ι w ρ hr hρ => ?_⟩
    have h1 := hρ m m' hm
    rw [hmm] at h1
    obtain ⟨l, hl, hw⟩ := h1
    obtain ⟨es', clk, g1, g2, g3⟩ := hr.obj b l _ hl hb
    obtain ⟨g, r1, r2⟩ := findKey_run hy hsh (hρ key key' hk) w hf (es' := es'.toList) g2 g3
    have hck : ∀ em, (Instr.checkKey em 10000 kt (ρ key)).run P w = .ok () w := fun em => by
      obtain ⟨as, h1, h2⟩ := hkey ι (ρ key) (hρ key key' hk)
      exact checkKey_shape hy 2 kt sh (keyShape_spec hsh).1 (keyShape_spec hsh).2.1 (by omega) (ρ key) as em 10000 w (by omega) h1 h2
    have main : ∃ w', (Builtin.delete_ tys o.type #[ρ m, ρ key]).run P w = .ok (.tuple #[]) w' ∧ Rel cx σ ι (h.put b (.mp es2)) w' ∧ Ext ι ι h (h.put b (.mp es2)) w w' := by
      cases f with
      | none =>
        cases g with
        | some q => exact r2.elim
        | none =>
          simp only at hes
          subst hes
          obtain ⟨a1, a2⟩ := map_put (clk2 := clk) hr hl hb g1 g2 g3
          refine ⟨_, ?_, a1, a2⟩
          simp [Builtin.delete_, ht', run_underlying (und_spec hy hu), hw, run_getObj_map g1, hck, r1, run_setObj_map g1]
      | some p =>
        obtain ⟨i, v⟩ := p
        cases g with
        | none => exact r2.elim
        | some q =>
          obtain ⟨j, u⟩ := q
          obtain ⟨rfl, _, e1, he1, he2, he3⟩ := r2
          obtain ⟨rfl, hi⟩ := hes
          have hj : j < es'.size := by have := (List.getElem?_eq_some_iff.1 he1).1; simpa using this
          have hE : ∀ {vs : List V} {ws : List Value}, VRL σ ι vs ws → ∀ i, VRL σ ι (vs.eraseIdx i) (ws.eraseIdx i) := fun {vs ws} hv i => by
            rw [List.eraseIdx_eq_take_drop_succ, List.eraseIdx_eq_take_drop_succ]; exact (hv.take i).append (hv.drop (i + 1))
          have hmapE : ∀ {α β : Type} (g : α → β) (l : List α) (i : Nat), (l.eraseIdx i).map g = (l.map g).eraseIdx i := fun g l i => by
            simp [List.eraseIdx_eq_take_drop_succ, List.map_take, List.map_drop]
          have hT : (es'.eraseIdxIfInBounds j).toList = es'.toList.eraseIdx j := by simp [Array.eraseIdxIfInBounds, hj]
          have k1 : VRL σ ι ((es.eraseIdx j).map (·.1)) ((es'.eraseIdxIfInBounds j).toList.map (·.key)) := by rw [hT, hmapE, hmapE]; exact hE g2 j
          have k2 : VRL σ ι ((es.eraseIdx j).map (·.2)) ((es'.eraseIdxIfInBounds j).toList.map (·.val)) := by rw [hT, hmapE, hmapE]; exact hE g3 j
          obtain ⟨a1, a2⟩ := map_put (clk2 := clk) hr hl hb g1 k1 k2
          refine ⟨_, ?_, a1, a2⟩
          simp [Builtin.delete_, ht', run_underlying (und_spec hy hu), hw, run_getObj_map g1, hck, r1, run_setObj_map g1]
    obtain ⟨w', m1, m2, m3⟩ := main
    refine ⟨.value (.tuple #[]), .tuple #[], w', ι, ?_, .inl rfl, VR.tup.2 ⟨#[], rfl, rfl⟩, m2, m3⟩
    simp [execOp, ho, hA, resolve, invoke, builtin, m1]
  · cases e0

theorem s_lenm (hy : Hyp P cx) {o : Oper} {ty kt e : TypeId} {x : Operand} {y : Opd} {args : Array Operand} {tys : Array TypeId} (ho : o.op = .call { callee := .builtin .len, args := args, argTypes := tys }) (ha : args.toList = [x]) (ht : tys.toList[0]? = some ty) (hx : ofOpd x = some y) (hu : und cx ty = some (.map kt e)) :
    Sound cx σ P o (x_lenm y) := by
  intro t h k r e0
  have ht' : tys[0]? = some ty := by simpa using ht
  have hA : args = #[x] := by cases args; simp at ha; subst ha; rfl
  rcases V.onMap_some e0 with ⟨b, hm, e0⟩ | ⟨_, e0⟩
  · obtain ⟨es, hb, e0⟩ := mapK_some e0
    refine ⟨_, h, e0, OSim.same fun ι w ρ hr hρ => ⟨goInt es.length, ?_, by rw [llen_eq]; rfl⟩⟩
    have h1 := hρ x y hx
    rw [hm] at h1
    obtain ⟨l, hl, hw⟩ := h1
    obtain ⟨es', clk, g1, g2, g3⟩ := hr.obj b l _ hl hb
    have hlen : es'.size = es.length := by have := g2.length; simpa using this
    simp [execOp, ho, hA, resolve, invoke, builtin, Builtin.len_, ht', hw, run_underlying (und_spec hy hu), run_getObj_map g1, hlen]
  · obtain ⟨hn, e0⟩ := ifK_some.1 e0
    rw [V.isNilm_iff] at hn
    refine ⟨_, h, e0, OSim.same fun ι w ρ hr hρ => ⟨goInt 0, ?_, rfl⟩⟩
    have h1 := hρ x y hx
    rw [hn, VR.nilm] at h1
    simp [execOp, ho, hA, resolve, invoke, builtin, Builtin.len_, ht', h1, run_underlying (und_spec hy hu)]
end
end Go.Ab
