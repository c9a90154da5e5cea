/- An abstract interpreter of the program's text, in plain terms, proved sound; part 2. No condition. -/
import Derived.Test.YtoeplekdelhicaaGreatLa
import Derived.RangeFuncLeaves
import Derived.Scope
set_option linter.unusedVariables false
set_option linter.unusedSimpArgs false
/- Each operation, seventh part: maps, at the operation. -/
namespace Go.Ab
section
variable {P : Program} {cx : Cx} {σ : Nat → Int}

theorem vrl1 {ι : Inj} {v : V} {x : Value} (h : VR σ ι v x) : VRL σ ι [v] [x] := ⟨x, [], rfl, h, rfl⟩

theorem keyShape_spec {t : TypeId} {sh : List Bool} (h : keyShape cx t = some sh) : shapeOf cx 2 t = some sh ∧ (∀ n e, und cx t ≠ some (.array n e)) ∧ (∃ d, und cx t = some d ∧ ((∃ q, d = .int q) ∨ d = .bool ∨ ∃ fs, d = .struct fs)) := by
  unfold keyShape at h
  split at h
  · rename_i hu; exact ⟨h, fun n e hh => (by rw [hu] at hh; cases hh), _, hu, .inr (.inl rfl)⟩
  · rename_i q hu; exact ⟨h, fun n e hh => (by rw [hu] at hh; cases hh), _, hu, .inl ⟨q, rfl⟩⟩
  · rename_i fs hu; exact ⟨h, fun n e hh => (by rw [hu] at hh; cases hh), _, hu, .inr (.inr ⟨fs, rfl⟩)⟩
  · cases h

/-- a key is looked for: the model's findKey -/
theorem findKey_run (hy : Hyp P cx) {kt : TypeId} {sh : List Bool} (hsh : keyShape cx kt = some sh) {ι : Inj} {key : V} {x : Value} (hx : VR σ ι key x) (w : World) {es : List (V × V)} {f : Option (Nat × V)} (hf : Fnd cx σ kt sh key es f)
    {es' : List MapEntry} (hk : VRL σ ι (es.map (·.1)) (es'.map (·.key))) (hv : VRL σ ι (es.map (·.2)) (es'.map (·.val))) :
    ∃ g : Option (Nat × Value), (Instr.findKey kt x es').run P w = .ok g w ∧ (match f, g with | none, none => True | some (i, v), some (j, u) => j = i ∧ VR σ ι v u ∧ (∃ e, es'[i]? = some e ∧ e.key = x ∧ Instr.sameBits 10000 x x = true) | _, _ => False) := by
  obtain ⟨h1, _, d, hd, hdd⟩ := keyShape_spec hsh
  obtain ⟨g, r1, r2, r3⟩ := Fnd.real hy h1 hx w hf hk hv 0
  refine ⟨g, ?_, ?_⟩
  · have hu := und_spec hy hd
    rcases hdd with ⟨q, rfl⟩ | rfl | ⟨fs, rfl⟩
    · simp [Instr.findKey, run_underlying hu, r3 _ hd (.inl ⟨q, rfl⟩)]
    · simp [Instr.findKey, run_underlying hu, r3 _ hd (.inr rfl)]
    · cases es' with
      | nil =>
        simp [Instr.findAsking] at r1
        simp [Instr.findKey, run_underlying hu, Instr.findNow, ← r1]
      | cons e es' => simp [Instr.findKey, run_underlying hu, Instr.findNow, Instr.sameNow, r1]
  · cases f with
    | none => cases g with
      | none => trivial
      | some q => exact r2.elim
    | some p => obtain ⟨i, v⟩ := p; cases g with
      | none => exact r2
      | some q => obtain ⟨j, u⟩ := q; obtain ⟨a, b, c⟩ := r2; exact ⟨by omega, b, c⟩

theorem mapK_some {h : H} {r : Pos} {k : List (V × V) → R} {q : V × H} (e : h.mapK r k = some q) : ∃ es, h.get r = some (.mp es) ∧ k es = some q := by
  obtain ⟨o, ho, e⟩ := H.getK_some e
  cases o <;> first | exact ⟨_, ho, e⟩ | cases e

theorem run_getObj_map {w : World} {b : Nat} {es : Array MapEntry} {clk : Nat} (h : w.heap[b]? = some (.map es clk)) : (getObj b).run P w = .ok (.map es clk) w := by
  simp [getObj, Sem.run, h]
theorem run_setObj_map {w : World} {b : Nat} {es : Array MapEntry} {clk : Nat} (h : w.heap[b]? = some (.map es clk)) (o : Obj) : (setObj b o).run P w = .ok () { w with heap := w.heap.setIfInBounds b o } := by
  simp [setObj, Sem.run, h]

theorem lkR_some {zero : V} {ok : Bool} {f : Option V} {k : V → R} {r : V × H} (e : lkR zero ok f k = some r) : k (if ok then .tup [f.getD zero, .bool f.isSome] else f.getD zero) = some r := by
  cases ok <;> cases f <;> exact e

theorem s_lkp {S : Sy} (hS : SyOk σ P S) (hy : Hyp P cx) {o : Oper} {t0 kt e : TypeId} {x i : Operand} {x' i' : Opd} {ok ag : Bool} {sh : List Bool} {zero : V} (ho : o.op = .lookup t0 x i ok) (hx : ofOpd x = some x') (hi : ofOpd i = some i') (hu : und cx t0 = some (.map kt e))
    (hg : aggOf cx kt = some ag) (hsh : keyShape cx kt = some sh) (hz : zeroOf cx e = some zero) : Sound cx σ P o (x_lkp S ag sh zero ok x' i') := by
  intro t h k r e0
  obtain ⟨e0, hkey⟩ := keyOk_some (σ := σ) hg e0
  have hck : ∀ (ι : Inj) (ρ : Operand → Value) (em : Bool) (w : World), Opds σ ι t ρ → (Instr.checkKey em 10000 kt (ρ i)).run P w = .ok () w := fun ι ρ em w hρ => by
    obtain ⟨as, h1, h2⟩ := hkey ι (ρ i) (hρ i i' hi)
    exact checkKey_shape hy 2 kt sh (keyShape_spec hsh).1 (keyShape_spec hsh).2.1 (by omega) (ρ i) as em 10000 w (by omega) h1 h2
  rcases V.onMap_some e0 with ⟨b, hm, e0⟩ | ⟨_, e0⟩
  · obtain ⟨es, hb, e0⟩ := mapK_some e0
    obtain ⟨f, e0, hf⟩ := findK_some hS hg e0
    refine ⟨_, h, lkR_some e0, OSim.same fun ι w ρ hr hρ => ?_⟩
    have h1 := hρ x x' hx
    rw [hm] at h1
    obtain ⟨l, hl, hw⟩ := h1
    obtain ⟨es', clk, g1, g2, g3⟩ := hr.obj b l _ hl hb
    obtain ⟨g, r1, r2⟩ := findKey_run hy hsh (hρ i i' hi) w hf (es' := es'.toList) g2 g3
    obtain ⟨z, hz1, hz2⟩ := zeroOf_spec (σ := σ) hy hz w
    refine ⟨if ok then .tuple #[(g.map (·.2)).getD z, .bool g.isSome] else (g.map (·.2)).getD z, ?_, ?_⟩
    · have : (Instr.lookup t0 (ρ x) (ρ i) ok).run P w = .ok (if ok then .tuple #[(g.map (·.2)).getD z, .bool g.isSome] else (g.map (·.2)).getD z) w := by
        cases g with
        | none => simp [Instr.lookup, run_underlying (und_spec hy hu), hw, run_getObj_map g1, hck ι ρ _ w hρ, r1, hz1]
        | some q => simp [Instr.lookup, run_underlying (und_spec hy hu), hw, run_getObj_map g1, hck ι ρ _ w hρ, r1]
      simp only [execOp, ho, Sem.run_bind, this, Result.andThen_ok, Sem.run_pure]
    · have key : VR σ ι ((f.map (·.2)).getD zero) ((g.map (·.2)).getD z) ∧ f.isSome = g.isSome := by
        cases f with
        | none => cases g with
          | none => exact ⟨hz2 ι, rfl⟩
          | some q => exact r2.elim
        | some p => cases g with
          | none => exact r2.elim
          | some q => exact ⟨r2.2.1, rfl⟩
      cases ok with
      | false => exact key.1
      | true =>
        refine VR.tup.2 ⟨_, rfl, ?_⟩
        refine ⟨_, _, rfl, key.1, _, [], rfl, ?_, rfl⟩
        rw [← key.2]; simp; rfl
  · obtain ⟨hn, e0⟩ := ifK_some.1 e0
    rw [V.isNilm_iff] at hn
    refine ⟨_, h, lkR_some e0, OSim.same fun ι w ρ hr hρ => ?_⟩
    have h1 := hρ x x' hx
    rw [hn, VR.nilm] at h1
    obtain ⟨z, hz1, hz2⟩ := zeroOf_spec (σ := σ) hy hz w
    have hfk : (Instr.findKey kt (ρ i) []).run P w = .ok none w := by
      obtain ⟨_, _, d, hd, _⟩ := keyShape_spec hsh
      simp [Instr.findKey, run_underlying (und_spec hy hd), Instr.findNow]
    refine ⟨if ok then .tuple #[z, .bool false] else z, ?_, ?_⟩
    · have : (Instr.lookup t0 (ρ x) (ρ i) ok).run P w = .ok (if ok then .tuple #[z, .bool false] else z) w := by
        simp [Instr.lookup, run_underlying (und_spec hy hu), h1, hck ι ρ _ w hρ, hfk, hz1]
      simp only [execOp, ho, Sem.run_bind, this, Result.andThen_ok, Sem.run_pure]
    · cases ok with
      | false => exact hz2 ι
      | true => exact VR.tup.2 ⟨_, rfl, _, _, rfl, hz2 ι, _, [], rfl, rfl, rfl⟩

theorem modify_map_const {α β : Type} (g : α → β) (f : α → α) (u : β) (hg : ∀ e, g (f e) = u) : ∀ (l : List α) (i : Nat), (l.modify i f).map g = (l.map g).set i u
  | [], i => by cases i <;> simp
  | a :: l, 0 => by simp [hg]
  | a :: l, i + 1 => by simpa using modify_map_const g f u hg l i

theorem map_put {ι : Inj} {h : H} {w : World} (hr : Rel cx σ ι h w) {b : Pos} {l : Loc} {es es2 : List (V × V)} {es' es2' : Array MapEntry} {clk clk2 : Nat} (hl : ι b = some l) (hb : h.get b = some (.mp es)) (_hw : w.heap[l.blk]? = some (.map es' clk))
    (h1 : VRL σ ι (es2.map (·.1)) (es2'.toList.map (·.key))) (h2 : VRL σ ι (es2.map (·.2)) (es2'.toList.map (·.val))) :
    Rel cx σ ι (h.put b (.mp es2)) { w with heap := w.heap.setIfInBounds l.blk (.map es2' clk2) } ∧ Ext ι ι h (h.put b (.mp es2)) w { w with heap := w.heap.setIfInBounds l.blk (.map es2' clk2) } := by
  have hlt := (hr.bound b l hl).2
  refine hr.put hl hb (by simp) (by simp) (fun B hB => by simp [Ne.symm hB]) ⟨es2', clk2, ?_, h1, h2⟩ rfl rfl rfl
  show (w.heap.setIfInBounds l.blk _)[l.blk]? = _
  simp [hlt]

theorem s_mset {S : Sy} (hS : SyOk σ P S) (hy : Hyp P cx) {o : Oper} {t0 kt e : TypeId} {m key x : Operand} {m' key' x' : Opd} {ag : Bool} {sh : List Bool} (ho : o.op = .mapUpdate t0 m key x ∨ o.op = .insert t0 m key x) (hm : ofOpd m = some m') (hk : ofOpd key = some key') (hx : ofOpd x = some x')
    (hu : und cx t0 = some (.map kt e)) (hg : aggOf cx kt = some ag) (hsh : keyShape cx kt = some sh) : Sound cx σ P o (x_mset S ag sh m' key' x') := by
  intro t h k r e0
  obtain ⟨e0, hkey⟩ := keyOk_some (σ := σ) hg e0
  rcases V.onMap_some e0 with ⟨b, hmm, e0⟩ | ⟨_, e0⟩
  · obtain ⟨es, hb, e0⟩ := mapK_some e0
    obtain ⟨f, es2, e0, hf, hes⟩ := setKK_some hS hg e0
    refine ⟨_, _, e0, fun ι w ρ hr hρ => ?_⟩
    have h1 := hρ m m' hm
    rw [hmm] at h1
    obtain ⟨l, hl, hw⟩ := h1
    obtain ⟨es', clk, g1, g2, g3⟩ := hr.obj b l _ hl hb
    obtain ⟨g, r1, r2⟩ := findKey_run hy hsh (hρ key key' hk) w hf (es' := es'.toList) g2 g3
    have hck : (Instr.checkKey false 10000 kt (ρ key)).run P w = .ok () w := by
      obtain ⟨as, h1, h2⟩ := hkey ι (ρ key) (hρ key key' hk)
      exact checkKey_shape hy 2 kt sh (keyShape_spec hsh).1 (keyShape_spec hsh).2.1 (by omega) (ρ key) as false 10000 w (by omega) h1 h2
    have hk' := hρ key key' hk
    have hx' := hρ x x' hx
    have main : ∃ w', (Instr.mapUpdate t0 (ρ m) (ρ key) (ρ x)).run P w = .ok () w' ∧ Rel cx σ ι (h.put b (.mp es2)) w' ∧ Ext ι ι h (h.put b (.mp es2)) w w' := by
      cases f with
      | none =>
        cases g with
        | some q => exact r2.elim
        | none =>
          simp only at hes
          subst hes
          obtain ⟨a1, a2⟩ := map_put (clk2 := clk + 1) (es2' := es'.push { key := ρ key, val := ρ x, born := clk }) (es2 := es ++ [(key'.ev t, x'.ev t)]) hr hl hb g1 (by simpa using g2.append (vrl1 hk')) (by simpa using g3.append (vrl1 hx'))
          refine ⟨_, ?_, a1, a2⟩
          simp [Instr.mapUpdate, run_underlying (und_spec hy hu), hw, run_getObj_map g1, hck, r1, run_setObj_map g1]
      | some p =>
        obtain ⟨i, v⟩ := p
        cases g with
        | none => exact r2.elim
        | some q =>
          obtain ⟨j, u⟩ := q
          obtain ⟨rfl, _, e1, he1, he2, he3⟩ := r2
          obtain ⟨rfl, hi⟩ := hes
          have k1 : VRL σ ι ((es.set j (key'.ev t, x'.ev t)).map (·.1)) ((es'.modify j fun e => { e with key := ρ key, val := ρ x }).toList.map (·.key)) := by
            rw [Array.toList_modify, modify_map_const (fun e : MapEntry => e.key) (fun e => { e with key := ρ key, val := ρ x }) (ρ key) (fun e => rfl), List.map_set]; exact g2.set j hk'
          have k2 : VRL σ ι ((es.set j (key'.ev t, x'.ev t)).map (·.2)) ((es'.modify j fun e => { e with key := ρ key, val := ρ x }).toList.map (·.val)) := by
            rw [Array.toList_modify, modify_map_const (fun e : MapEntry => e.val) (fun e => { e with key := ρ key, val := ρ x }) (ρ x) (fun e => rfl), List.map_set]; exact g3.set j hx'
          obtain ⟨a1, a2⟩ := map_put (clk2 := clk) hr hl hb g1 k1 k2
          refine ⟨_, ?_, a1, a2⟩
          have he1' : es'[j]? = some e1 := by simpa using he1
          have hst : (Instr.keyThatStays (((es'[j]?).map (·.key)).getD (ρ key)) (ρ key)).run P w = .ok (ρ key) w := by
            rw [he1']; simp only [Option.map_some, Option.getD_some, he2]
            unfold Instr.keyThatStays
            rw [if_pos he3]; rfl
          simp only [Instr.mapUpdate, Sem.run_bind, run_underlying (und_spec hy hu), Result.andThen_ok, hw, run_getObj_map g1, hck, r1, hst, run_setObj_map g1]
    obtain ⟨w', m1, m2, m3⟩ := main
    refine ⟨.skip, undef, w', ι, ?_, .inr ⟨rfl, rfl⟩, VR.tup.2 ⟨#[], rfl, rfl⟩, m2, m3⟩
    rcases ho with ho | ho <;> simp only [execOp, ho, Sem.run_bind, m1, Result.andThen_ok, Sem.run_pure]
  · cases e0

theorem s_del {S : Sy} (hS : SyOk σ P S) (hy : Hyp P cx) {o : Oper} {t0 kt e : TypeId} {m key : Operand} {m' key' : Opd} {ag : Bool} {sh : List Bool} {args : Array Operand} {tys : Array TypeId} (ho : o.op = .call { callee := .builtin .delete, args := args, argTypes := tys }) (ha : args.toList = [m, key]) (ht : tys.toList[0]? = some t0)
    (hm : ofOpd m = some m') (hk : ofOpd key = some key') (hu : und cx t0 = some (.map kt e)) (hg : aggOf cx kt = some ag) (hsh : keyShape cx kt = some sh) : Sound cx σ P o (x_del S ag sh m' key') := by
  intro t h k r e0
  have ht' : tys[0]? = some t0 := by simpa using ht
  have hA : args = #[m, key] := by cases args; simp at ha; subst ha; rfl
  obtain ⟨e0, hkey⟩ := keyOk_some (σ := σ) hg e0
  rcases V.onMap_some e0 with ⟨b, hmm, e0⟩ | ⟨_, e0⟩
  · obtain ⟨es, hb, e0⟩ := mapK_some e0
    obtain ⟨f, es2, e0, hf, hes⟩ := delKK_some hS hg e0
    refine ⟨_, _, e0, fun ι w ρ hr hρ => ?_⟩
    have h1 := hρ m m' hm
    rw [hmm] at h1
    obtain ⟨l, hl, hw⟩ := h1
    obtain ⟨es', clk, g1, g2, g3⟩ := hr.obj b l _ hl hb
    obtain ⟨g, r1, r2⟩ := findKey_run hy hsh (hρ key key' hk) w hf (es' := es'.toList) g2 g3
    have hck : ∀ em, (Instr.checkKey em 10000 kt (ρ key)).run P w = .ok () w := fun em => by
      obtain ⟨as, h1, h2⟩ := hkey ι (ρ key) (hρ key key' hk)
      exact checkKey_shape hy 2 kt sh (keyShape_spec hsh).1 (keyShape_spec hsh).2.1 (by omega) (ρ key) as em 10000 w (by omega) h1 h2
    have main : ∃ w', (Builtin.delete_ tys o.type #[ρ m, ρ key]).run P w = .ok (.tuple #[]) w' ∧ Rel cx σ ι (h.put b (.mp es2)) w' ∧ Ext ι ι h (h.put b (.mp es2)) w w' := by
      cases f with
      | none =>
        cases g with
        | some q => exact r2.elim
        | none =>
          simp only at hes
          subst hes
          obtain ⟨a1, a2⟩ := map_put (clk2 := clk) hr hl hb g1 g2 g3
          refine ⟨_, ?_, a1, a2⟩
          simp [Builtin.delete_, ht', run_underlying (und_spec hy hu), hw, run_getObj_map g1, hck, r1, run_setObj_map g1]
      | some p =>
        obtain ⟨i, v⟩ := p
        cases g with
        | none => exact r2.elim
        | some q =>
          obtain ⟨j, u⟩ := q
          obtain ⟨rfl, _, e1, he1, he2, he3⟩ := r2
          obtain ⟨rfl, hi⟩ := hes
          have hj : j < es'.size := by have := (List.getElem?_eq_some_iff.1 he1).1; simpa using this
          have hE : ∀ {vs : List V} {ws : List Value}, VRL σ ι vs ws → ∀ i, VRL σ ι (vs.eraseIdx i) (ws.eraseIdx i) := fun {vs ws} hv i => by
            rw [List.eraseIdx_eq_take_drop_succ, List.eraseIdx_eq_take_drop_succ]; exact (hv.take i).append (hv.drop (i + 1))
          have hmapE : ∀ {α β : Type} (g : α → β) (l : List α) (i : Nat), (l.eraseIdx i).map g = (l.map g).eraseIdx i := fun g l i => by
            simp [List.eraseIdx_eq_take_drop_succ, List.map_take, List.map_drop]
          have hT : (es'.eraseIdxIfInBounds j).toList = es'.toList.eraseIdx j := by simp [Array.eraseIdxIfInBounds, hj]
          have k1 : VRL σ ι ((es.eraseIdx j).map (·.1)) ((es'.eraseIdxIfInBounds j).toList.map (·.key)) := by rw [hT, hmapE, hmapE]; exact hE g2 j
          have k2 : VRL σ ι ((es.eraseIdx j).map (·.2)) ((es'.eraseIdxIfInBounds j).toList.map (·.val)) := by rw [hT, hmapE, hmapE]; exact hE g3 j
          obtain ⟨a1, a2⟩ := map_put (clk2 := clk) hr hl hb g1 k1 k2
          refine ⟨_, ?_, a1, a2⟩
          simp [Builtin.delete_, ht', run_underlying (und_spec hy hu), hw, run_getObj_map g1, hck, r1, run_setObj_map g1]
    obtain ⟨w', m1, m2, m3⟩ := main
    refine ⟨.value (.tuple #[]), .tuple #[], w', ι, ?_, .inl rfl, VR.tup.2 ⟨#[], rfl, rfl⟩, m2, m3⟩
    simp [execOp, ho, hA, resolve, invoke, builtin, m1]
  · cases e0

theorem s_lenm (hy : Hyp P cx) {o : Oper} {ty kt e : TypeId} {x : Operand} {y : Opd} {args : Array Operand} {tys : Array TypeId} (ho : o.op = .call { callee := .builtin .len, args := args, argTypes := tys }) (ha : args.toList = [x]) (ht : tys.toList[0]? = some ty) (hx : ofOpd x = some y) (hu : und cx ty = some (.map kt e)) :
    Sound cx σ P o (x_lenm y) := by
  intro t h k r e0
  have ht' : tys[0]? = some ty := by simpa using ht
  have hA : args = #[x] := by cases args; simp at ha; subst ha; rfl
  rcases V.onMap_some e0 with ⟨b, hm, e0⟩ | ⟨_, e0⟩
  · obtain ⟨es, hb, e0⟩ := mapK_some e0
    refine ⟨_, h, e0, OSim.same fun ι w ρ hr hρ => ⟨goInt es.length, ?_, by rw [llen_eq]; rfl⟩⟩
    have h1 := hρ x y hx
    rw [hm] at h1
    obtain ⟨l, hl, hw⟩ := h1
    obtain ⟨es', clk, g1, g2, g3⟩ := hr.obj b l _ hl hb
    have hlen : es'.size = es.length := by have := g2.length; simpa using this
    simp [execOp, ho, hA, resolve, invoke, builtin, Builtin.len_, ht', hw, run_underlying (und_spec hy hu), run_getObj_map g1, hlen]
  · obtain ⟨hn, e0⟩ := ifK_some.1 e0
    rw [V.isNilm_iff] at hn
    refine ⟨_, h, e0, OSim.same fun ι w ρ hr hρ => ⟨goInt 0, ?_, rfl⟩⟩
    have h1 := hρ x y hx
    rw [hn, VR.nilm] at h1
    simp [execOp, ho, hA, resolve, invoke, builtin, Builtin.len_, ht', h1, run_underlying (und_spec hy hu)]

theorem iterK_some {h : H} {b : Pos} {k : Option Pos → R} {q : V × H} (e : h.iterK b k = some q) : ∃ m, h.get b = some (.iter m) ∧ k m = some q := by
  obtain ⟨o, ho, e⟩ := H.getK_some e
  cases o <;> first | exact ⟨_, ho, e⟩ | cases e
theorem noEs_some {es : List (V × V)} {k : R} {q : V × H} (e : noEs es k = some q) : es = [] ∧ k = some q := by
  cases es with
  | nil => exact ⟨rfl, e⟩
  | cons _ _ => cases e
theorem s_rng (hy : Hyp P cx) {o : Oper} {ty kt e : TypeId} {x : Operand} {y : Opd} (ho : o.op = .range ty x) (hx : ofOpd x = some y) (hu : und cx ty = some (.map kt e)) : Sound cx σ P o (x_rng y) := by
  intro t h k r e0
  rcases V.onMap_some e0 with ⟨b, hm, e0⟩ | ⟨_, e0⟩
  · obtain ⟨es, hb, e0⟩ := mapK_some e0
    have e1 : k (.ptr h.nx 0) (h.push (.iter (some b))) = some r := by rw [← e0]; exact (H.alloc_eq h _ (fun r h' => k (.ptr r 0) h')).symm
    refine ⟨_, _, e1, fun ι w ρ hr hρ => ?_⟩
    have h1 := hρ x y hx
    rw [hm] at h1
    obtain ⟨l, hl, hw⟩ := h1
    obtain ⟨es', clk, g1, _, _⟩ := hr.obj b l _ hl hb
    obtain ⟨g2, g3⟩ := hr.push (.iter (some b)) (.mapIter (some l.blk) clk #[] clk) 0 ⟨rfl, some l.blk, clk, clk, by show (w.heap.push _)[w.heap.size]? = _; simp, l, hl, rfl⟩
    refine ⟨_, .pointer (some ⟨w.heap.size, 0, none⟩), _, _, ?_, .inl rfl, ⟨_, Inj.add_same _ _ _, rfl⟩, g2, g3⟩
    simp [execOp, ho, Instr.range, run_underlying (und_spec hy hu), hw, run_getObj_map g1]
  · obtain ⟨hn, e0⟩ := ifK_some.1 e0
    rw [V.isNilm_iff] at hn
    have e1 : k (.ptr h.nx 0) (h.push (.iter none)) = some r := by rw [← e0]; exact (H.alloc_eq h _ (fun r h' => k (.ptr r 0) h')).symm
    refine ⟨_, _, e1, fun ι w ρ hr hρ => ?_⟩
    have h1 := hρ x y hx
    rw [hn, VR.nilm] at h1
    obtain ⟨g2, g3⟩ := hr.push (.iter none) (.mapIter none 0 #[] 0) 0 ⟨rfl, none, 0, 0, by show (w.heap.push _)[w.heap.size]? = _; simp, rfl⟩
    refine ⟨_, .pointer (some ⟨w.heap.size, 0, none⟩), _, _, ?_, .inl rfl, ⟨_, Inj.add_same _ _ _, rfl⟩, g2, g3⟩
    simp [execOp, ho, Instr.range, run_underlying (und_spec hy hu), h1]
theorem run_getObj_iter {w : World} {b : Nat} {m : Option Nat} {s : Nat} {seen : Array Nat} {l : Nat} (h : w.heap[b]? = some (.mapIter m s seen l)) : (getObj b).run P w = .ok (.mapIter m s seen l) w := by
  simp [getObj, Sem.run, h]
theorem s_nxt {o : Oper} {x : Operand} {y : Opd} (ho : o.op = .next x false) (hx : ofOpd x = some y) : Sound cx σ P o (x_nxt y) := by
  intro t h k r e0
  obtain ⟨b, i, hp, e0⟩ := V.onPtr_some e0
  obtain ⟨hi, e0⟩ := ifK_some.1 e0
  rw [Nat.beq_eq] at hi
  subst hi
  obtain ⟨m, hb, e0⟩ := iterK_some e0
  cases m with
  | none =>
    refine ⟨_, h, e0, OSim.same fun ι w ρ hr hρ => ⟨.tuple #[.bool false], ?_, VR.tup.2 ⟨_, rfl, _, _, rfl, rfl, rfl⟩⟩⟩
    have h1 := hρ x y hx
    rw [hp] at h1
    obtain ⟨l, hl, hw⟩ := h1
    obtain ⟨h0, ml, since, last, g1, g2⟩ := hr.obj b l _ hl hb
    have g2 : ml = none := g2
    subst g2
    rw [h0] at hw
    simp [execOp, ho, Instr.next, hw, run_getObj_iter g1]
  | some m =>
    obtain ⟨es, hm, e0⟩ := mapK_some e0
    obtain ⟨rfl, e0⟩ := noEs_some e0
    refine ⟨_, h, e0, OSim.same fun ι w ρ hr hρ => ⟨.tuple #[.bool false], ?_, VR.tup.2 ⟨_, rfl, _, _, rfl, rfl, rfl⟩⟩⟩
    have h1 := hρ x y hx
    rw [hp] at h1
    obtain ⟨l, hl, hw⟩ := h1
    obtain ⟨h0, ml, since, last, g1, lm, g2, g3⟩ := hr.obj b l _ hl hb
    subst g3
    obtain ⟨es', clk, g4, g5, _⟩ := hr.obj m lm _ g2 hm
    have hes : es' = #[] := by have := VRL.nil.1 g5; simpa using this
    subst hes
    rw [h0] at hw
    simp [execOp, ho, Instr.next, hw, run_getObj_iter g1, run_getObj_map g4, choose, Sem.run, Question.forced]
end
end Go.Ab

/- Each operation, eighth part: slices. -/
namespace Go.Ab
section
variable {P : Program} {cx : Cx} {σ : Nat → Int}

/-- an optional bound stands for the real one -/
def VO (σ : Nat → Int) (ι : Inj) : Option V → Option Value → Prop
  | none, none => True
  | some v, some x => VR σ ι v x
  | _, _ => False
theorem evo_sim {ι : Inj} {t : T} {ρ : Operand → Value} (hρ : Opds σ ι t ρ) {x : Option Operand} {y : Option Opd} (h : ofOpt x = some y) : VO σ ι (evo y t) (x.map ρ) := by
  cases x with
  | none => simp [ofOpt] at h; subst h; trivial
  | some x =>
    unfold ofOpt at h
    cases h1 : ofOpd x with
    | none => simp [h1] at h
    | some z => simp [h1] at h; subst h; exact hρ x z h1

theorem bnd_some {x : Option V} {y d : Nat} {k : Nat → R} {r : V × H} (e : bnd x y d k = some r) : ∃ n, k n = some r ∧ (x = none → n = d) ∧ (∀ v, x = some v → n ≤ y ∧ ∃ j, v = .int j (.ofNat n)) := by
  cases x with
  | none => exact ⟨d, e, fun _ => rfl, fun _ h => by cases h⟩
  | some v =>
    obtain ⟨j, n, hv, e⟩ := V.nat_some e
    obtain ⟨hle, e⟩ := ifK_some.1 e
    rw [Nat.ble_eq] at hle
    exact ⟨n, e, fun h => (by cases h), fun u hu => (by cases hu; exact ⟨hle, j, hv⟩)⟩
theorem bound_run {ι : Inj} {v : V} {x : Value} {n y : Nat} (h : VR σ ι v x) (hv : ∃ j, v = .int j (.ofNat n)) (hle : n ≤ y) (c : BoundsCode) (w : World) : (Instr.sliceBound x y c).run P w = .ok n w := by
  obtain ⟨j, rfl⟩ := hv
  have : x = .int j n := h
  subst this
  have : (n : Int) ≤ y := by omega
  simp [Instr.sliceBound, asIntOf, this]

theorem bounds_some {len cap : Nat} {lo hi mx : Option V} {k : Nat → Nat → Nat → R} {r : V × H} (e : bounds len cap lo hi mx k = some r) :
    ∃ l h m, k l h m = some r ∧ (mx = none → m = cap) ∧ m ≤ cap ∧ (hi = none → h = len) ∧ (hi ≠ none → h ≤ m) ∧ l ≤ h ∧
      ∀ (ι : Inj) (lo' hi' mx' : Option Value) (isS : Bool) (c : Nat) (w : World), cap ≤ c → (mx = none → c = cap) → VO σ ι lo lo' → VO σ ι hi hi' → VO σ ι mx mx' → (Instr.sliceBounds isS len c lo' hi' mx').run P w = .ok (l, h, m) w := by
  obtain ⟨m, e, hm1, hm2⟩ := bnd_some e
  have hmc : m ≤ cap := by
    cases mx with
    | none => rw [hm1 rfl]; exact Nat.le_refl _
    | some v => exact (hm2 v rfl).1
  cases hi with
  | none =>
    cases mx with
    | some v => cases e
    | none =>
      obtain ⟨l, e, hl1, hl2⟩ := bnd_some (x := lo) (y := len) (d := 0) (k := fun l => k l len m) e
      have hll : l ≤ len := by
        cases lo with
        | none => rw [hl1 rfl]; omega
        | some v => exact (hl2 v rfl).1
      refine ⟨l, len, m, e, hm1, hmc, fun _ => rfl, fun h => absurd rfl h, hll, fun ι lo' hi' mx' isS c w hcc hcx h1 h2 h3 => ?_⟩
      obtain rfl := hcx rfl
      cases hi' with
      | some _ => exact h2.elim
      | none => cases mx' with
        | some _ => exact h3.elim
        | none =>
          cases lo with
          | none => cases lo' with
            | some _ => exact h1.elim
            | none => simp [Instr.sliceBounds, hm1 rfl, hl1 rfl]
          | some v => cases lo' with
            | none => exact h1.elim
            | some x => simp [Instr.sliceBounds, hm1 rfl, bound_run h1 (hl2 v rfl).2 (hl2 v rfl).1]
  | some hv =>
    obtain ⟨h, e, _, hh⟩ := bnd_some (x := some hv) (y := m) (d := len) (k := fun h => bnd lo h 0 fun l => k l h m) e
    obtain ⟨l, e, hl1, hl2⟩ := bnd_some (x := lo) (y := h) (d := 0) (k := fun l => k l h m) e
    have hll : l ≤ h := by
      cases lo with
      | none => rw [hl1 rfl]; omega
      | some v => exact (hl2 v rfl).1
    refine ⟨l, h, m, e, hm1, hmc, fun h => (by cases h), fun _ => (hh hv rfl).1, hll, fun ι lo' hi' mx' isS c w hcc hcx h1 h2 h3 => ?_⟩
    cases hi' with
    | none => exact h2.elim
    | some hx =>
      have hb : ∀ c, (Instr.sliceBound hx m c).run P w = .ok h w := fun c => bound_run h2 (hh hv rfl).2 (hh hv rfl).1 c w
      cases mx with
      | none => cases mx' with
        | some _ => exact h3.elim
        | none =>
          have hmm := hm1 rfl
          obtain rfl := hcx rfl
          subst hmm
          cases lo with
          | none => cases lo' with
            | some _ => exact h1.elim
            | none => simp [Instr.sliceBounds, hb, hl1 rfl]
          | some v => cases lo' with
            | none => exact h1.elim
            | some x => simp [Instr.sliceBounds, hb, bound_run h1 (hl2 v rfl).2 (hl2 v rfl).1]
      | some mv => cases mx' with
        | none => exact h3.elim
        | some mxx =>
          have hmb : ∀ q, (Instr.sliceBound mxx c q).run P w = .ok m w := fun q => bound_run h3 (hm2 mv rfl).2 (Nat.le_trans (hm2 mv rfl).1 hcc) q w
          cases lo with
          | none => cases lo' with
            | some _ => exact h1.elim
            | none => simp [Instr.sliceBounds, hmb, hb, hl1 rfl]
          | some v => cases lo' with
            | none => exact h1.elim
            | some x => simp [Instr.sliceBounds, hmb, hb, bound_run h1 (hl2 v rfl).2 (hl2 v rfl).1]

/-- a slice's slice: the model's own result from its bounds -/
def cutOf (esz : Nat) (a : Addr) (l h m : Nat) : Value := .slice (some (if m = l then a else a.add (l * esz))) (h - l) (m - l)

theorem slcE_some {esz : Nat} {b : Pos} {o len cap : Nat} {fx : Option Nat} {lo hi mx : Option V} {k : V → R} {r : V × H} (e : slcE esz b o len cap fx lo hi mx k = some r) :
    ∃ v, k v = some r ∧ ∀ (ι : Inj) (L : Loc) (c : Nat) (lo' hi' mx' : Option Value) (isS : Bool) (w : World) (A : Nat), ι b = some L → cap ≤ c → (fx = none → c = cap) → (∀ e, fx = some e → o + c * e ≤ L.sz) → (A = L.off + o ∨ (c = 0 ∧ len = 0 ∧ fx ≠ none)) →
      VO σ ι lo lo' → VO σ ι hi hi' → VO σ ι mx mx' → ∃ l h m, (Instr.sliceBounds isS len c lo' hi' mx').run P w = .ok (l, h, m) w ∧ VR σ ι v (cutOf esz ⟨L.blk, A, none⟩ l h m) := by
  cases fx with
  | none =>
    obtain ⟨l, h, m, e, hm1, hmc, hh1, hh2, hlh, hrun⟩ := bounds_some (σ := σ) (P := P) (len := len) (cap := cap) (lo := lo) (hi := hi) (mx := mx) (k := fun l h m => Bool.rec (motive := fun _ => R) (k (.sl b (Nat.add o (Nat.mul l esz)) (Nat.sub h l) (Nat.sub m l) none)) (k (.sl b o (Nat.sub h l) 0 none)) (Nat.beq m l)) e
    have hk : k (if m = l then .sl b o (h - l) 0 none else .sl b (o + l * esz) (h - l) (m - l) none) = some r := by
      by_cases hml : m = l
      · have : Nat.beq m l = true := by rw [hml]; exact Nat.beq_refl l
        rw [this] at e; rw [if_pos hml]; exact e
      · have : Nat.beq m l = false := by
          cases hb : Nat.beq m l with
          | false => rfl
          | true => exact absurd (Nat.eq_of_beq_eq_true hb) hml
        rw [this] at e; rw [if_neg hml]; exact e
    refine ⟨_, hk, fun ι L c lo' hi' mx' isS w A hL hc hcx _ hA h1 h2 h3 => ?_⟩
    obtain rfl := hcx rfl
    obtain rfl : A = L.off + o := hA.resolve_right fun h => h.2.2 rfl
    refine ⟨l, h, m, hrun ι lo' hi' mx' isS _ w (Nat.le_refl _) (fun _ => rfl) h1 h2 h3, ?_⟩
    unfold cutOf
    by_cases hml : m = l
    · rw [if_pos hml, if_pos hml]
      exact VR.sl_mk hL rfl (by omega) (fun _ => (by omega)) (fun _ h => (by cases h))
    · rw [if_neg hml, if_neg hml, addr_add]
      exact VR.sl_mk hL (by rw [Nat.add_assoc]) (Nat.le_refl _) (fun _ => rfl) (fun _ h => (by cases h))
  | some f =>
    cases mx with
    | none =>
      obtain ⟨hf, e⟩ := ifK_some.1 e
      obtain ⟨hlc, e⟩ := ifK_some.1 e
      have hf := Nat.eq_of_beq_eq_true hf
      rw [Nat.ble_eq] at hlc
      obtain ⟨h, e, hh1, hh2⟩ := bnd_some e
      obtain ⟨l, e, hl1, hl2⟩ := bnd_some e
      refine ⟨_, e, fun ι L c lo' hi' mx' isS w A hL hc _ hsz hA h1 h2 h3 => ?_⟩
      have hll : l ≤ h := by
        cases lo with
        | none => rw [hl1 rfl]; omega
        | some v => exact (hl2 v rfl).1
      have hhl : h ≤ len := by
        cases hi with
        | none => rw [hh1 rfl]; exact Nat.le_refl _
        | some v => exact (hh2 v rfl).1
      refine ⟨l, h, c, ?_, ?_⟩
      · cases mx' with
        | some _ => exact h3.elim
        | none =>
          cases hi with
          | none => cases hi' with
            | some _ => exact h2.elim
            | none =>
              cases lo with
              | none => cases lo' with
                | some _ => exact h1.elim
                | none => simp [Instr.sliceBounds, hh1 rfl, hl1 rfl]
              | some v => cases lo' with
                | none => exact h1.elim
                | some x => have := hh1 rfl; subst this; simp [Instr.sliceBounds, bound_run h1 (hl2 v rfl).2 (hl2 v rfl).1]
          | some hv => cases hi' with
            | none => exact h2.elim
            | some hx =>
              have hb : ∀ q, (Instr.sliceBound hx c q).run P w = .ok h w := fun q => bound_run h2 (hh2 hv rfl).2 (by omega) q w
              cases lo with
              | none => cases lo' with
                | some _ => exact h1.elim
                | none => simp [Instr.sliceBounds, hb, hl1 rfl]
              | some v => cases lo' with
                | none => exact h1.elim
                | some x => simp [Instr.sliceBounds, hb, bound_run h1 (hl2 v rfl).2 (hl2 v rfl).1]
      · unfold cutOf
        have hfit : ∀ q, some f = some q → o + l * esz + (c - l) * q ≤ L.sz := fun q hq => by
          have hq' : f = q := by injection hq
          have hs := hsz f rfl
          rw [← hq', ← hf]
          have : l * f + (c - l) * f = c * f := by rw [← Nat.add_mul]; congr 1; omega
          omega
        by_cases hcl : c = l
        · rw [if_pos hcl]
          exact ⟨L, c - l, A, hL, rfl, (by show cap - l ≤ c - l; omega), fun h => (by cases h), hfit, .inr ⟨by omega, by show h - l = 0; omega, fun h => by cases h⟩⟩
        · obtain rfl : A = L.off + o := hA.resolve_right fun h => by omega
          rw [if_neg hcl, addr_add]
          exact VR.sl_mk hL (by rw [Nat.add_assoc]; rfl) (by show cap - l ≤ c - l; omega) (fun h => (by cases h)) hfit
    | some mv =>
      have hhi : hi ≠ none := fun hn => by
        subst hn
        obtain ⟨m, e1, _, _⟩ := bnd_some (x := some mv) (y := cap) (d := cap) (k := fun m => (none : R)) e
        cases e1
      obtain ⟨l, h, m, e, hm1, hmc, hh1, hh2, hlh, hrun⟩ := bounds_some (σ := σ) (P := P) (len := len) (cap := cap) (lo := lo) (hi := hi) (mx := some mv)
        (k := fun l h m => Bool.rec (motive := fun _ => R) (ifK (ltb l m) (k (.sl b (Nat.add o (Nat.mul l esz)) (Nat.sub h l) (Nat.sub m l) none))) (k (.sl b o 0 0 (some f))) (Nat.beq m l)) e
      cases hml : Nat.beq m l with
      | false =>
        rw [hml] at e
        obtain ⟨hlt, e⟩ := ifK_some.1 e
        rw [ltb_iff] at hlt
        refine ⟨_, e, fun ι L c lo' hi' mx' isS w A hL hc _ _ hA h1 h2 h3 => ⟨l, h, m, ?_, ?_⟩⟩
        · exact hrun ι lo' hi' mx' isS c w hc (fun h => by cases h) h1 h2 h3
        · unfold cutOf
          obtain rfl : A = L.off + o := hA.resolve_right fun h => by omega
          rw [if_neg (by omega), addr_add]
          exact VR.sl_mk hL (by rw [Nat.add_assoc]; rfl) (Nat.le_refl _) (fun _ => rfl) (fun _ h => (by cases h))
      | true =>
        rw [hml] at e
        have hml := Nat.eq_of_beq_eq_true hml
        refine ⟨_, e, fun ι L c lo' hi' mx' isS w A hL hc _ hsz hA h1 h2 h3 => ⟨l, h, m, ?_, ?_⟩⟩
        · exact hrun ι lo' hi' mx' isS c w hc (fun h => by cases h) h1 h2 h3
        · have hhl : h = l := by have := hh2 hhi; omega
          unfold cutOf
          rw [if_pos hml, hhl, hml, Nat.sub_self]
          exact ⟨L, 0, A, hL, rfl, Nat.le_refl _, fun h => (by cases h), fun q hq => (by have := hsz f rfl; omega), .inr ⟨rfl, rfl, fun h => by cases h⟩⟩
end
end Go.Ab

/- Each operation, last part: slices at the operation, append, copy, clear. -/
namespace Go.Ab
section
variable {P : Program} {cx : Cx} {σ : Nat → Int}

theorem s_slc (hy : Hyp P cx) {o : Oper} {ty e : TypeId} {x : Operand} {lo hi mx : Option Operand} {x' : Opd} {lo' hi' mx' : Option Opd} {esz : Nat} (ho : o.op = .slice ty x lo hi mx) (hx : ofOpd x = some x') (h1 : ofOpt lo = some lo') (h2 : ofOpt hi = some hi') (h3 : ofOpt mx = some mx')
    (hu : und cx ty = some (.slice e)) (hs : szOf cx e = some esz) : Sound cx σ P o (x_slc esz x' lo' hi' mx') := by
  intro t h k r e0
  have hu := und_spec hy hu
  have arm : ∀ (ρ : Operand → Value) (w : World) (a : Option Addr) (len cap l hh m : Nat), ρ x = .slice a len cap → (Instr.sliceBounds true len cap (lo.map ρ) (hi.map ρ) (mx.map ρ)).run P w = .ok (l, hh, m) w →
      (execOp ρ o).run P w = .ok (.value (.slice (if m = l then a else a.map (·.add (l * esz))) (hh - l) (m - l))) w := fun ρ w a len cap l hh m hv hb => by
    simp only [execOp, ho, hv, Instr.sliceAt, Sem.run_bind, run_underlying hu, Result.andThen_ok, Instr.slice, hb, szOf_spec hy hs, Sem.run_pure]
  rcases V.onSl_some e0 with ⟨b, off, len, cap, fx, hv, e0⟩ | ⟨_, e0⟩
  · obtain ⟨v, e0, hrun⟩ := slcE_some (P := P) (σ := σ) e0
    refine ⟨_, h, e0, OSim.same fun ι w ρ hr hρ => ?_⟩
    have hX := hρ x x' hx
    rw [hv] at hX
    obtain ⟨L, c, A, hL, hw, hc1, hc2, hc3, hA⟩ := hX
    obtain ⟨l, hh, m, g1, g2⟩ := hrun ι L c _ _ _ true w A hL hc1 hc2 hc3 hA (evo_sim hρ h1) (evo_sim hρ h2) (evo_sim hρ h3)
    refine ⟨_, arm ρ w _ len c l hh m hw g1, ?_⟩
    have : (if m = l then some (⟨L.blk, A, none⟩ : Addr) else (some (⟨L.blk, A, none⟩ : Addr)).map (·.add (l * esz))) = some (if m = l then ⟨L.blk, A, none⟩ else (⟨L.blk, A, none⟩ : Addr).add (l * esz)) := by split <;> rfl
    rw [this]; exact g2
  · obtain ⟨hn, e0⟩ := ifK_some.1 e0
    rw [V.isNils_iff] at hn
    obtain ⟨l, hh, m, e0, _, hm, hh1, hh2, hlh, hrun⟩ := bounds_some (σ := σ) (P := P) (k := fun _ _ _ => k .nils h) e0
    refine ⟨_, h, e0, OSim.same fun ι w ρ hr hρ => ?_⟩
    have hX := hρ x x' hx
    rw [hn, VR.nils] at hX
    have g1 := hrun ι _ _ _ true 0 w (Nat.le_refl _) (fun _ => rfl) (evo_sim hρ h1) (evo_sim hρ h2) (evo_sim hρ h3)
    refine ⟨_, arm ρ w none 0 0 l hh m hX g1, ?_⟩
    have hm0 : m = 0 := by omega
    have hh0 : hh = 0 := by
      by_cases hz : evo hi' t = none
      · exact hh1 hz
      · have := hh2 hz; omega
    subst hm0; subst hh0
    have : l = 0 := by omega
    subst this
    exact VR.nils.2 rfl

theorem s_slca (hy : Hyp P cx) {o : Oper} {ty e : TypeId} {x : Operand} {lo hi mx : Option Operand} {x' : Opd} {lo' hi' mx' : Option Opd} {n esz : Nat} (ho : o.op = .slice ty x lo hi mx) (hx : ofOpd x = some x') (h1 : ofOpt lo = some lo') (h2 : ofOpt hi = some hi') (h3 : ofOpt mx = some mx')
    (hu : und cx ty = some (.array n e)) (hs : szOf cx e = some esz) : Sound cx σ P o (x_slca n esz x' lo' hi' mx') := by
  intro t h k r e0
  have hu := und_spec hy hu
  obtain ⟨b, off, hv, e0⟩ := V.onPtr_some e0
  obtain ⟨v, e0, hrun⟩ := slcE_some (P := P) (σ := σ) e0
  refine ⟨_, h, e0, OSim.same fun ι w ρ hr hρ => ?_⟩
  have hX := hρ x x' hx
  rw [hv] at hX
  obtain ⟨L, hL, hw⟩ := hX
  obtain ⟨l, hh, m, g1, g2⟩ := hrun ι L n _ _ _ false w _ hL (Nat.le_refl _) (fun _ => rfl) (fun _ h => by cases h) (.inl rfl) (evo_sim hρ h1) (evo_sim hρ h2) (evo_sim hρ h3)
  refine ⟨_, ?_, g2⟩
  simp only [execOp, ho, hw, Instr.sliceAt, Instr.sureAddr, Sem.run_bind, run_underlying hu, Result.andThen_ok, g1, szOf_spec hy hs, Sem.run_pure]
  rfl

/-! ### the cells of a slice -/
theorem run_firstCells_some {w : World} {b : Nat} {c : Array Value} {ty : TypeId} {fz : Nat × Nat} (hb : w.heap[b]? = some (.cells c ty fz)) {off m : Nat} (hle : off + m ≤ c.size) :
    (loadCells ⟨b, off, none⟩ m).run P w = .ok ((c.toList.drop off).take m).toArray w := by
  have h := run_loadCells_list (P := P) w (⟨b, off, none⟩ : Addr) ((c.toList.drop off).take m) (fun j v hj => by
    rw [addr_add, cell_of w hb]
    have hj' : j < m := by have := (List.getElem?_eq_some_iff.1 hj).1; simp at this; omega
    simpa [List.getElem?_take, hj', List.getElem?_drop] using hj)
  have hl : ((c.toList.drop off).take m).length = m := by simp; omega
  rw [hl] at h; exact h

/-- cells that are loaded, in both -/
theorem ldn_sim {h : H} {b : Pos} {i n : Nat} {k : List V → R} {r : V × H} (e : h.ldn b i n k = some r) :
    ∃ vs, vs.length = n ∧ k vs = some r ∧ (∀ o, h.get b = some o → n ≠ 0 → o.isC = true ∧ i + n ≤ o.size ∧ ∀ j, j < n → o.at (i + j) = vs[j]?) ∧ ∀ (ι : Inj) (w : World) (l : Loc), Rel cx σ ι h w → ι b = some l →
      (∀ v ∈ vs, v.one = true) ∧ ∃ ws : List Value, VRL σ ι vs ws ∧ (loadCells ⟨l.blk, l.off + i, none⟩ n).run P w = .ok ws.toArray w := by
  obtain ⟨ob, hb, e⟩ := H.getK_some e
  obtain ⟨vs, hl, hn, hat, e⟩ := getcs_some e
  refine ⟨vs, hl, e, fun o ho hz => (by rw [hb] at ho; cases ho; exact ⟨(hn hz).1, (hn hz).2, hat⟩), fun ι w l hr hlo => ?_⟩
  by_cases hz : n = 0
  · have : vs = [] := List.eq_nil_of_length_eq_zero (by omega)
    subst this; subst hz
    exact ⟨by simp, [], rfl, rfl⟩
  · obtain ⟨c, tyy, fz, h2, h3, h4, h5, h6⟩ := (orel_cells cx σ (hn hz).1).1 (hr.obj b l ob hlo hb)
    have hle := (hn hz).2
    refine ⟨fun v hv => ?_, (c.toList.drop (l.off + i)).take n, VRL.of_get ?_ fun j v hj => ?_, run_firstCells_some h2 (by omega)⟩
    · obtain ⟨j, hj, hjv⟩ := List.getElem_of_mem hv
      exact (h6 (i + j) v (by rw [hat j (by omega), List.getElem?_eq_getElem hj, hjv])).choose_spec.2.2
    · simp; omega
    · have hj' : j < n := by rw [← hl]; exact (List.getElem?_eq_some_iff.1 hj).1
      obtain ⟨xv, hx1, hx2, _⟩ := h6 (i + j) v (by rw [hat j hj', hj])
      refine ⟨xv, ?_, hx2⟩
      simp [hj', List.getElem?_drop, ← Nat.add_assoc] at hx1 ⊢; exact hx1

theorem elems_sim {h : H} {esz n : Nat} {s : V} {k : List V → R} {r : V × H} (e : h.elems esz s n k = some r) :
    ∃ vs, vs.length = n * esz ∧ k vs = some r ∧ ∀ (ι : Inj) (w : World) (x : Value), Rel cx σ ι h w → VR σ ι s x → (∀ v ∈ vs, v.one = true) ∧ ∃ ws : List Value, VRL σ ι vs ws ∧ (Builtin.firstCells esz n x).run P w = .ok ws.toArray w := by
  rcases V.onSl_some e with ⟨b, off, len, cap, fx, hv, e⟩ | ⟨_, e⟩
  · obtain ⟨hnl, e⟩ := ifK_some.1 e
    rw [Nat.ble_eq] at hnl
    obtain ⟨vs, h1, e, _, h2⟩ := ldn_sim (P := P) (cx := cx) (σ := σ) e
    refine ⟨vs, h1, e, fun ι w x hr hx => ?_⟩
    rw [hv] at hx
    obtain ⟨l, c, A, hl, rfl, _, _, _, hA⟩ := hx
    obtain ⟨g1, ws, g2, g3⟩ := h2 ι w l hr hl
    rcases hA with rfl | ⟨_, hz, _⟩
    · exact ⟨g1, ws, g2, g3⟩
    · have hn0 : n = 0 := by omega
      have hvs : vs = [] := List.eq_nil_of_length_eq_zero (by rw [h1, hn0]; show 0 * esz = 0; omega)
      subst hvs
      refine ⟨g1, [], rfl, ?_⟩
      rw [hn0]
      simp [Builtin.firstCells, loadCells, loadCellsFrom]
  · obtain ⟨hn, e⟩ := ifK_some.1 e
    obtain ⟨hz, e⟩ := ifK_some.1 e
    rw [V.isNils_iff] at hn
    have hz := Nat.eq_of_beq_eq_true hz
    refine ⟨[], by rw [hz]; simp, e, fun ι w x hr hx => ⟨by simp, [], rfl, ?_⟩⟩
    rw [hn, VR.nils] at hx
    subst hx
    simp [Builtin.firstCells]

/-! ### append -/
theorem growBy_le (nl : Nat) : ∀ (r c : Nat), Builtin.growBy nl r c ≤ 2 ^ r * c + (2 ^ r - 1) * 768
  | 0, c => by simp [Builtin.growBy]
  | r + 1, c => by
    unfold Builtin.growBy
    have hp : 1 ≤ 2 ^ r := Nat.one_le_two_pow
    split
    · have : c ≤ 2 ^ (r + 1) * c := Nat.le_mul_of_pos_left c (by omega)
      omega
    · refine Nat.le_trans (growBy_le nl r _) ?_
      have h1 : c + (c + 768) / 4 ≤ 2 * c + 768 := by omega
      have h2 := Nat.mul_le_mul_left (2 ^ r) h1
      have h3 : 2 ^ r * (2 * c + 768) = 2 ^ (r + 1) * c + 2 ^ r * 768 := by rw [Nat.pow_succ, Nat.mul_add]; congr 1; rw [← Nat.mul_assoc]
      have h4 : (2 ^ (r + 1) - 1) * 768 = 2 ^ r * 768 + (2 ^ r - 1) * 768 := by rw [Nat.pow_succ, ← Nat.add_mul]; congr 1; omega
      omega
theorem nextcap_le {need c : Nat} (h : c < need) (h2 : need ≤ 1073741824) : Builtin.nextslicecap need c ≤ 17179881204 := by
  unfold Builtin.nextslicecap
  split
  · omega
  · split
    · omega
    · have := growBy_le need 4 c
      omega

/-- the old block's cells go on as the new block's -/
theorem Rel.move {ι : Inj} {h : H} {w w' : World} (hr : Rel cx σ ι h w) {b : Pos} {l l' : Loc} {o o' : O} (hb : ι b = some l) (ho : h.get b = some o) (hd : o ≠ .dead) (hblk : l'.blk = l.blk)
    (hsz : w'.heap.size = w.heap.size) (hoth : ∀ B, B ≠ l.blk → w'.heap[B]? = w.heap[B]?) (hn : ORel cx σ (ι.add h.nx l') w' l' o') (hos : w'.os = w.os) (hout : w'.output = w.output) (htape : w'.tape = w.tape) :
    Rel cx σ (ι.add h.nx l') ((h.put b .dead).push o') w' ∧ Ext ι (ι.add h.nx l') h ((h.put b .dead).push o') w w' := by
  classical
  have hle : Le ι (ι.add h.nx l') := Inj.add_le hr.none_nx
  have hbn : b ≠ h.nx := fun e => by rw [e, hr.none_nx] at hb; cases hb
  have hnx : ((h.put b .dead).push o').get h.nx = some o' := by have := H.get_push_same (h.put b .dead) o'; rwa [H.nx_put] at this
  have hge : ∀ x, x ≠ h.nx → ((h.put b .dead).push o').get x = if x = b then some .dead else h.get x := fun x hx => by
    rw [H.get_push_ne _ _ _ (by rw [H.nx_put]; exact hx)]
    split
    · rename_i e; rw [e, H.get_put_same]
    · rename_i e; exact H.get_put_ne _ _ _ _ e
  refine ⟨⟨fun x lx hx => ?_, fun x y lx ly hx hy e hdx hdy => ?_, fun x lx ox hx hox => ?_⟩, ?_⟩
  · rw [H.nx_push, H.nx_put, Pos.toNat_succ, hsz]
    by_cases ex : x = h.nx
    · rw [ex, Inj.add_same] at hx; cases hx; rw [ex, hblk]; exact ⟨by omega, (hr.bound b l hb).2⟩
    · rw [Inj.add_ne _ _ _ _ ex] at hx; have := hr.bound x lx hx; omega
  · have key : ∀ z lz, z ≠ h.nx → ι.add h.nx l' z = some lz → ((h.put b .dead).push o').get z ≠ some .dead → ι z = some lz ∧ z ≠ b ∧ h.get z ≠ some .dead := fun z lz hz hzl hzd => by
      rw [Inj.add_ne _ _ _ _ hz] at hzl
      rw [hge z hz] at hzd
      by_cases ezb : z = b
      · rw [if_pos ezb] at hzd; exact absurd rfl hzd
      · rw [if_neg ezb] at hzd; exact ⟨hzl, ezb, hzd⟩
    have hba : h.get b ≠ some .dead := by rw [ho]; exact fun e => hd (Option.some.inj e)
    by_cases ex : x = h.nx
    · by_cases ey : y = h.nx
      · rw [ex, ey]
      · obtain ⟨h1, h2, h3⟩ := key y ly ey hy hdy
        rw [ex, Inj.add_same] at hx; cases hx
        exact absurd (hr.inj y b ly l h1 hb (by rw [← e, hblk]) h3 hba) h2
    · obtain ⟨h1, h2, h3⟩ := key x lx ex hx hdx
      by_cases ey : y = h.nx
      · rw [ey, Inj.add_same] at hy; cases hy
        exact absurd (hr.inj x b lx l h1 hb (by rw [e, hblk]) h3 hba) h2
      · obtain ⟨g1, g2, g3⟩ := key y ly ey hy hdy
        exact hr.inj x y lx ly h1 g1 e h3 g3
  · by_cases ex : x = h.nx
    · rw [ex, Inj.add_same] at hx; cases hx; rw [ex, hnx] at hox; cases hox; exact hn
    · rw [Inj.add_ne _ _ _ _ ex] at hx
      rw [hge x ex] at hox
      by_cases exb : x = b
      · rw [if_pos exb] at hox; cases hox; trivial
      · rw [if_neg exb] at hox
        by_cases hde : ox = .dead
        · subst hde; trivial
        · refine ((hr.obj x lx ox hx hox).other fun y hy => ?_).mono hle
          rw [hoth]
          · exact hy
          · intro eb
            exact exb (hr.inj x b lx l hx hb eb (by rw [hox]; exact fun e => hde (Option.some.inj e)) (by rw [ho]; exact fun e => hd (Option.some.inj e)))
  · refine ⟨hle, fun x lx e n => ?_, fun x hlt n => ?_, ?_, fun B q e hn' => (hoth B (fun e' => hn' b l hb e'.symm)).trans e, by omega, fun x lx e n => ?_, hos, hout, htape⟩
    · by_cases ex : x = h.nx
      · rw [ex]; exact Nat.le_refl _
      · rw [Inj.add_ne _ _ _ _ ex] at e; exact no_some e n
    · have ex : x ≠ h.nx := fun e => by rw [e] at hlt; omega
      have exb : x ≠ b := fun e => by rw [e] at n; exact no_some hb n
      rw [hge x ex, if_neg exb]
    · rw [H.nx_push, H.nx_put, Pos.toNat_succ]; omega
    · by_cases ex : x = h.nx
      · rw [ex, Inj.add_same] at e; cases e; exact .inr ⟨b, l, hb, hblk.symm⟩
      · rw [Inj.add_ne _ _ _ _ ex] at e; exact no_some e n
end
end Go.Ab

/- append, copy, clear: at the operation. -/
namespace Go.Ab
section
variable {P : Program} {cx : Cx} {σ : Nat → Int}

theorem cut_append (need old : Nat) (elem : TypeId) (t : Nat) : need ≤ (Question.appendCap need old elem).cut t := by
  show need ≤ need + t % (2 ^ 63 - need); omega

/-- the model's append where a new array is made -/
theorem append_grows (hy : Hyp P cx) {sT u e e2 : TypeId} {esz by_ : Nat} {zs : List V} {ty : TypeId} (hu : und cx sT = some (.slice e)) (hu2 : und cx u = some (.slice e2)) (hs : szOf cx e = some esz)
    (hz : zerosOf cx e = some zs) (hby : byOf cx e = some by_) {base : Option Addr} {len c : Nat} {ax : Option Addr} {n cx2 : Nat} {w : World} (hgt : c < len + n) (hle : len + n < 9223372036854775808 ∧ Builtin.nextslicecap (len + n) c * by_ ≤ 281474976710656)
    {old new : List Value} (ho : (Builtin.firstCells esz len (.slice base len c)).run P w.drew = .ok old.toArray w.drew) (hn : (Builtin.firstCells esz n (.slice ax n cx2)).run P w.drew = .ok new.toArray w.drew) (hesz : zs.length = esz)
    (hol : old.length = len * esz) (hnl : new.length = n * esz) :
    ∃ (cap : Nat) (cs : Array Value), len + n ≤ cap ∧ cs.toList = (old ++ new) ++ cs.toList.drop (old ++ new).length ∧ cs.size = cap * esz ∧
      (Builtin.append_ #[sT, u] ty #[.slice base len c, .slice ax n cx2]).run P w = .ok (.slice (some ⟨w.heap.size, 0, none⟩) (len + n) cap) (w.drew.alloc (.cells cs e)) := by
  obtain ⟨i, z, hi, hz0, hzz⟩ := zeros_info (σ := fun _ => 0) hy hz
  obtain ⟨i', hi', hsz⟩ := info_of hy hs
  rw [hi] at hi'; cases hi'
  obtain ⟨ib, hib, hbytes⟩ := byOf_spec hy hby w
  rw [run_typeInfo w hi] at hib
  have hib' : i = ib := by injection hib
  rw [← hib'] at hbytes
  have hzsz : z.cells.size = zs.length := by have := (hzz (fun _ => none)).1.length; simpa using this
  let q := Question.appendCap (len + n) c e
  have hcap : len + n ≤ q.cut (w.tape w.drawn q) := cut_append _ _ _ _
  generalize hcc : q.cut (w.tape w.drawn q) = cap at hcap
  let rest := Builtin.zeroCells z.cells (cap - (len + n))
  have hrl : rest.size = (cap - (len + n)) * esz := by simp [rest, Builtin.zeroCells, hzsz, hesz]
  refine ⟨cap, old.toArray ++ new.toArray ++ rest, hcap, by simp, ?_, ?_⟩
  · simp only [Array.size_append, List.size_toArray, hol, hnl, hrl]
    rw [← Nat.add_mul, ← Nat.add_mul]; congr 1; omega
  · have hne : ¬ (len + n ≤ c) := by omega
    have h63 : ¬ (9223372036854775807 < ((len : Int) + (n : Int))) := by omega
    have h48 : ¬ (281474976710656 < Builtin.nextslicecap (len + n) c * i.bytes) := by
      rw [hbytes]; have := hle.2; omega
    have hu' := und_spec hy hu
    have hu2' := und_spec hy hu2
    subst hsz
    have hcc' : (Question.appendCap (len + n) c e).cut (w.tape w.drawn (Question.appendCap (len + n) c e)) = cap := hcc
    simp [Builtin.append_, run_underlying hu', run_underlying hu2', sizeOf, typeInfo, zeroValue, hi, hz0, Builtin.lenOf, hne, h63, h48, Question.forced, ho, hn, newRow, hcc']
    congr 2
    apply Array.ext'
    simp [rest]

theorem append_fits (hy : Hyp P cx) {sT u e e2 : TypeId} {esz : Nat} {ty : TypeId} (hu : und cx sT = some (.slice e)) (hu2 : und cx u = some (.slice e2)) (hs : szOf cx e = some esz) {b : Addr} {len c : Nat} {ax : Option Addr} {n cx2 : Nat} {w w' : World} (hle : len + n ≤ c)
    {new : List Value} (hn : (Builtin.firstCells esz n (.slice ax n cx2)).run P w = .ok new.toArray w) (hst : (storeCells (b.add (len * esz)) new 0).run P w = .ok () w') :
    (Builtin.append_ #[sT, u] ty #[.slice (some b) len c, .slice ax n cx2]).run P w = .ok (.slice (some b) (len + n) c) w' := by
  obtain ⟨i, hi, hsz⟩ := info_of hy hs
  subst hsz
  simp [Builtin.append_, run_underlying (und_spec hy hu), run_underlying (und_spec hy hu2), sizeOf, typeInfo, hi, Builtin.lenOf, hle, hn, hst]
theorem append_nil0 (hy : Hyp P cx) {sT u e e2 : TypeId} {esz : Nat} {ty : TypeId} (hu : und cx sT = some (.slice e)) (hu2 : und cx u = some (.slice e2)) (hs : szOf cx e = some esz) {ax : Option Addr} {cx2 : Nat} {w : World}
    {new : List Value} (hn : (Builtin.firstCells esz 0 (.slice ax 0 cx2)).run P w = .ok new.toArray w) :
    (Builtin.append_ #[sT, u] ty #[.slice none 0 0, .slice ax 0 cx2]).run P w = .ok (.slice none 0 0) w := by
  obtain ⟨i, hi, hsz⟩ := info_of hy hs
  subst hsz
  simp [Builtin.append_, run_underlying (und_spec hy hu), run_underlying (und_spec hy hu2), sizeOf, typeInfo, hi, Builtin.lenOf, hn]

/-- a new row that begins with told cells -/
theorem grown_sim {ι : Inj} {h : H} {w : World} (hr : Rel cx σ ι h w) {vs : List V} {ws : List Value} {cs : Array Value} {esz cap : Nat} (ty : TypeId) (hv : VRL σ ι vs ws) (h1 : ∀ v ∈ vs, v.one = true) (hcs : cs.toList = ws ++ cs.toList.drop ws.length) (hsz : cs.size = cap * esz) {n : Nat} (hn : n ≤ cap) :
    ∃ ι', VR σ ι' (.sl h.nx 0 n n (some esz)) (.slice (some ⟨w.heap.size, 0, none⟩) n cap) ∧ Rel cx σ ι' (h.push (mkO vs)) (w.drew.alloc (.cells cs ty)) ∧ Ext ι ι' h (h.push (mkO vs)) w (w.drew.alloc (.cells cs ty)) := by
  obtain ⟨a, b, c, d⟩ := mkO_spec vs
  have hr' : Rel cx σ ι h w.drew := hr.drew rfl
  have hle : ws.length ≤ cs.size := by have := congrArg List.length hcs; simp at this; omega
  have := orel_new (cx := cx) w.drew ty a b c d hv h1 hcs hle
  obtain ⟨e, f⟩ := hr'.push (mkO vs) (.cells cs ty) cs.size this
  refine ⟨_, VR.sl_mk (Inj.add_same _ _ _) rfl hn (fun h => (by cases h)) (fun q hq => ?_), e, (Ext.drew ι h w (w.drawn + 1)).trans f⟩
  have hq' : esz = q := by injection hq
  rw [← hq', Nat.zero_add, hsz]
  exact Nat.le_refl _

theorem storeCells_shift (b a i : Nat) : ∀ (vs : List Value) (j : Nat), storeCells ⟨b, a + i, none⟩ vs j = storeCells ⟨b, a, none⟩ vs (i + j)
  | [], _ => rfl
  | v :: vs, j => by
    have ih := storeCells_shift b a i vs (j + 1)
    simp only [storeCells, addr_add, Nat.add_assoc] at ih ⊢
    rw [ih]
/-- so many elements more may be appended -/
theorem appOk_spec {by_ : Nat} {s : V} {len n : Nat} (h : appOk by_ s len n = true) (hb : by_ ≤ 1024) : len + n ≤ 1073741824 ∨ ((s = .nils ∨ ∃ b o, s = .sl b o 0 0 none) ∧ n * (by_ + 1) ≤ 281474976710656) := by
  unfold appOk at h
  cases h1 : Nat.ble (Nat.add len n) 1073741824 with
  | true => exact .inl (Nat.le_of_ble_eq_true h1)
  | false =>
    rw [h1] at h
    cases h2 : s.isNils with
    | true =>
      rw [h2] at h
      exact .inr ⟨.inl (V.isNils_iff.1 h2), Nat.le_of_ble_eq_true h⟩
    | false =>
      rw [h2] at h
      cases h3 : s.cap0 with
      | false => rw [h3] at h; cases h
      | true =>
        rw [h3] at h
        refine .inr ⟨.inr ?_, Nat.le_of_ble_eq_true h⟩
        cases s with
        | sl b o l c f =>
          cases f with
          | some f => cases h3
          | none =>
            have h3 : Bool.rec (motive := fun _ => Bool) false (Nat.beq c 0) (Nat.beq l 0) = true := h3
            cases hl : Nat.beq l 0 with
            | false => rw [hl] at h3; cases h3
            | true =>
              rw [hl] at h3
              have e1 := Nat.eq_of_beq_eq_true hl
              have e2 := Nat.eq_of_beq_eq_true h3
              subst e1 e2
              exact ⟨b, o, rfl⟩
        | _ => cases h3
theorem small_next {by_ c need : Nat} (h : c < need) (h2 : need ≤ 1073741824) (hb : by_ ≤ 1024) : need < 9223372036854775808 ∧ Builtin.nextslicecap need c * by_ ≤ 281474976710656 := by
  have h1 := nextcap_le h h2
  have h3 := Nat.mul_le_mul h1 hb
  omega
theorem zero_next {by_ need : Nat} (h2 : need * (by_ + 1) ≤ 281474976710656) (hn : 0 < need) : need < 9223372036854775808 ∧ Builtin.nextslicecap need 0 * by_ ≤ 281474976710656 := by
  have : Builtin.nextslicecap need 0 = need := by unfold Builtin.nextslicecap; rw [if_pos (by omega)]
  rw [this]
  rw [Nat.mul_add] at h2
  omega
theorem s_app (hy : Hyp P cx) {o : Oper} {sT u e e2 : TypeId} {s x : Operand} {s' x' : Opd} {esz by_ : Nat} {zs : List V} {args : Array Operand} (ho : o.op = .call { callee := .builtin .append, args := args, argTypes := #[sT, u] }) (ha : args.toList = [s, x]) (hs' : ofOpd s = some s') (hx : ofOpd x = some x')
    (hu : und cx sT = some (.slice e)) (hu2 : und cx u = some (.slice e2)) (hs : szOf cx e = some esz) (hz : zerosOf cx e = some zs) (hby : byOf cx e = some by_) (hb : by_ ≤ 1024) (hzl : zs.length = esz) (h0 : esz ≠ 0) : Sound cx σ P o (x_app esz by_ s' x') := by
  intro t h k r e0
  have hA : args = #[s, x] := by cases args; simp at ha; subst ha; rfl
  have arm : ∀ (ρ : Operand → Value) (w w' : World) (v : Value), (Builtin.append_ #[sT, u] o.type #[ρ s, ρ x]).run P w = .ok v w' → (execOp ρ o).run P w = .ok (.value v) w' := fun ρ w w' v hv => by
    simp [execOp, ho, hA, resolve, invoke, builtin, hv]
  have top : ∃ (n : Nat) (new : List V), (∃ len, lenK (s'.ev t) (fun l => if l = len then some r else none) = some r ∧ appOk by_ (s'.ev t) len n = true) ∧ new.length = n * esz ∧ doApp h esz (s'.ev t) new n k = some r ∧
      ∀ (ι : Inj) (w : World) (y : Value), Rel cx σ ι h w → VR σ ι (x'.ev t) y → (∃ a c, y = .slice a n c) ∧ (∀ v ∈ new, v.one = true) ∧ ∃ ws : List Value, VRL σ ι new ws ∧ (Builtin.firstCells esz n y).run P w = .ok ws.toArray w := by
    have stp : ∀ len, (lenK (x'.ev t) fun n => h.elems esz (x'.ev t) n fun new => ifK (appOk by_ (s'.ev t) len n) (doApp h esz (s'.ev t) new n k)) = some r → ∃ (n : Nat) (new : List V), appOk by_ (s'.ev t) len n = true ∧ new.length = n * esz ∧ doApp h esz (s'.ev t) new n k = some r ∧
        ∀ (ι : Inj) (w : World) (y : Value), Rel cx σ ι h w → VR σ ι (x'.ev t) y → (∃ a c, y = .slice a n c) ∧ (∀ v ∈ new, v.one = true) ∧ ∃ ws : List Value, VRL σ ι new ws ∧ (Builtin.firstCells esz n y).run P w = .ok ws.toArray w := by
      intro len e1
      have fin : ∀ n, (h.elems esz (x'.ev t) n fun new => ifK (appOk by_ (s'.ev t) len n) (doApp h esz (s'.ev t) new n k)) = some r → (∀ (ι : Inj) (y : Value), VR σ ι (x'.ev t) y → ∃ a c, y = .slice a n c) → ∃ (n : Nat) (new : List V), appOk by_ (s'.ev t) len n = true ∧ new.length = n * esz ∧ doApp h esz (s'.ev t) new n k = some r ∧
        ∀ (ι : Inj) (w : World) (y : Value), Rel cx σ ι h w → VR σ ι (x'.ev t) y → (∃ a c, y = .slice a n c) ∧ (∀ v ∈ new, v.one = true) ∧ ∃ ws : List Value, VRL σ ι new ws ∧ (Builtin.firstCells esz n y).run P w = .ok ws.toArray w := fun n e2 hy2 => by
        obtain ⟨new, h1, e2, h2⟩ := elems_sim (P := P) (cx := cx) (σ := σ) e2
        obtain ⟨hle, e2⟩ := ifK_some.1 e2
        exact ⟨n, new, hle, h1, e2, fun ι w y hr hv => ⟨hy2 ι y hv, h2 ι w y hr hv⟩⟩
      rcases lenK_some e1 with ⟨hn, e2⟩ | ⟨b, off, n, c, f, hn, e2⟩
      · exact fin 0 e2 fun ι y hv => (by rw [hn, VR.nils] at hv; exact ⟨none, 0, hv⟩)
      · exact fin n e2 fun ι y hv => (by rw [hn] at hv; obtain ⟨l, cc, A, _, hv, _⟩ := hv; exact ⟨_, cc, hv⟩)
    rcases lenK_some e0 with ⟨hn, e1⟩ | ⟨b, off, len, c, f, hn, e1⟩
    · obtain ⟨n, new, q1, q2⟩ := stp 0 e1
      exact ⟨n, new, ⟨0, by rw [hn]; rfl, q1⟩, q2⟩
    · obtain ⟨n, new, q1, q2⟩ := stp len e1
      exact ⟨n, new, ⟨len, by rw [hn]; show (if len = len then some r else none) = _; simp, q1⟩, q2⟩
  obtain ⟨n, new, ⟨len, hlen, hsmall⟩, hnl, e1, hX⟩ := top
  have hsm := appOk_spec hsmall hb
  rcases V.onSl_some e1 with ⟨b, off, len', cap, fx, hv, e2⟩ | ⟨_, e2⟩
  · have hll : len' = len := by
      rw [hv] at hlen
      have : (if len' = len then some r else none) = some r := hlen
      by_cases hq : len' = len
      · exact hq
      · rw [if_neg hq] at this; cases this
    subst hll
    cases hble : Nat.ble (Nat.add len' n) cap with
    | true =>
      rw [hble] at e2
      obtain ⟨ob, o', hbb, e3, g1, g2, g3, g4, g5, g6⟩ := stn_some e2
      rw [Nat.ble_eq] at hble
      refine ⟨_, _, e3, fun ι w ρ hr hρ => ?_⟩
      have hS := hρ s s' hs'
      rw [hv] at hS
      obtain ⟨L, c, A, hL, hw, hc1, hc2, hc3, hA⟩ := hS
      obtain ⟨⟨ax, cx2, hxv⟩, hone, ws, hws, hfc⟩ := hX ι w (ρ x) hr (hρ x x' hx)
      obtain ⟨w', m1, m2, m3⟩ := store_sim (P := P) hr hL hbb g1 g2 g3 g4 g5 g6 hws
      refine ⟨_, .slice (some ⟨L.blk, A, none⟩) (len' + n) c, w', ι, arm ρ w w' _ ?_, .inl rfl, ⟨L, c, A, hL, rfl, hc1, hc2, hc3, hA.imp_right fun h => ⟨h.1, by have := h.1; have hle2 : len' + n ≤ cap := hble; omega, h.2.2⟩⟩, m2, m3⟩
      rw [hw, hxv]
      rw [hxv] at hfc
      refine append_fits hy hu hu2 hs (Nat.le_trans hble hc1) hfc ?_
      rcases hA with rfl | ⟨hc0, _, _⟩
      · rw [addr_add, Nat.add_assoc]; exact m1
      · have hle2 : len' + n ≤ cap := hble
        have hn0 : n = 0 := by omega
        have hws0 : ws = [] := List.eq_nil_of_length_eq_zero (by rw [hws.length, hnl, hn0]; omega)
        subst hws0
        have hw' : w = w' := by simpa [storeCells] using m1
        subst hw'
        simp [storeCells]
    | false =>
      rw [hble] at e2
      have hgt : cap < len' + n := by
        rcases Nat.lt_or_ge cap (len' + n) with hq | hq
        · exact hq
        · have : Nat.ble (Nat.add len' n) cap = true := by rw [Nat.ble_eq]; exact hq
          rw [this] at hble; cases hble
      obtain ⟨old, ol1, e3, hld, hold⟩ := ldn_sim (P := P) (cx := cx) (σ := σ) e2
      replace ol1 : old.length = len' * esz := ol1
      -- a new array in the real memory
      have real : ∀ (ι : Inj) (w : World) (ρ : Operand → Value) (h1 : H), Rel cx σ ι h w → Rel cx σ ι h1 w → h1.nx = h.nx → Opds σ ι t ρ → ∀ (L : Loc) (c A : Nat), ι b = some L → ρ s = .slice (some ⟨L.blk, A, none⟩) len' c → c < len' + n → (fx = none → c = cap) → (A = L.off + off ∨ len' = 0) →
          ∃ v' w' ι', (execOp ρ o).run P w = .ok (.value v') w' ∧ VR σ ι' (.sl h.nx 0 (len' + n) (len' + n) (some esz)) v' ∧ Rel cx σ ι' (h1.push (mkO (old ++ new))) w' ∧ Ext ι ι' h1 (h1.push (mkO (old ++ new))) w w' := by
        intro ι w ρ h1 hr hr1 hnx hρ L c A hL hw hcl hcc hA
        have hnext : len' + n < 9223372036854775808 ∧ Builtin.nextslicecap (len' + n) c * by_ ≤ 281474976710656 := by
          rcases hsm with hq | ⟨hq, hq2⟩
          · exact small_next hcl hq hb
          · rcases hq with hq | ⟨_, _, hq⟩
            · rw [hv] at hq; cases hq
            · rw [hv] at hq
              simp only [V.sl.injEq] at hq
              obtain ⟨_, _, rfl, rfl, rfl⟩ := hq
              have := hcc rfl
              subst this
              rw [Nat.zero_add] at hcl ⊢
              exact zero_next hq2 hcl
        have hrd : Rel cx σ ι h w.drew := hr.drew rfl
        obtain ⟨⟨ax, cx2, hxv⟩, hone, ws, hws, hfc⟩ := hX ι w.drew (ρ x) hrd (hρ x x' hx)
        obtain ⟨oone, wo, hwo, hlo0⟩ := hold ι w.drew L hrd hL
        have hlo : (Builtin.firstCells esz len' (.slice (some ⟨L.blk, A, none⟩) len' c)).run P w.drew = .ok wo.toArray w.drew := by
          rcases hA with rfl | hz
          · exact hlo0
          · have hwo0 : wo = [] := List.eq_nil_of_length_eq_zero (by rw [hwo.length, ol1, hz]; omega)
            rw [hwo0, hz]
            simp [Builtin.firstCells, loadCells, loadCellsFrom]
        rw [hxv] at hfc
        obtain ⟨cp, cs, k1, k2, k3, k4⟩ := append_grows (base := some ⟨L.blk, A, none⟩) (len := len') (c := c) (ax := ax) (n := n) (cx2 := cx2) (ty := o.type) hy hu hu2 hs hz hby (w := w) hcl hnext (old := wo) (new := ws) hlo hfc hzl (by rw [hwo.length]; exact ol1) (by rw [hws.length, hnl])
        obtain ⟨ι', m1, m2, m3⟩ := grown_sim hr1 e (hwo.append hws) (fun v hv => by rcases List.mem_append.1 hv with hv | hv; exact oone v hv; exact hone v hv) k2 k3 k1
        rw [hnx] at m1
        exact ⟨_, _, ι', arm ρ w _ _ (by rw [hw, hxv]; exact k4), m1, m2, m3⟩
      cases fx with
      | none =>
        have e4 : k (.sl h.nx 0 (len' + n) (len' + n) (some esz)) (h.push (mkO (old ++ new))) = some r := by
          rw [← app_eq, ← e3]; exact (H.alloc_eq h (mkO (app old new)) (fun r h' => k (.sl r 0 (Nat.add len' n) (Nat.add len' n) (some esz)) h')).symm
        refine ⟨_, _, e4, fun ι w ρ hr hρ => ?_⟩
        have hS := hρ s s' hs'
        rw [hv] at hS
        obtain ⟨L, c, A, hL, hw, hc1, hc2, hc3, hA⟩ := hS
        obtain ⟨v', w', ι', m1, m2, m3, m4⟩ := real ι w ρ h hr hr rfl hρ L c A hL hw (by rw [hc2 rfl]; exact hgt) hc2 (hA.imp_right fun h => h.2.1)
        exact ⟨_, v', w', ι', m1, .inl rfl, m2, m3, m4⟩
      | some f =>
        obtain ⟨hf, e3⟩ := ifK_some.1 e3
        obtain ⟨ob, hbb, e3⟩ := H.getK_some e3
        obtain ⟨hcb, e3⟩ := ifK_some.1 e3
        have hoc : ob.isC = true := by cases ob <;> first | rfl | cases hcb
        have hf := Nat.eq_of_beq_eq_true hf
        subst hf
        have e4 : k (.sl h.nx 0 (len' + n) (len' + n) (some f)) ((h.put b .dead).push (mkO (old ++ new))) = some r := by
          rw [← app_eq, ← e3, H.alloc_eq, H.nx_put]; rfl
        refine ⟨_, _, e4, fun ι w ρ hr hρ => ?_⟩
        have hS := hρ s s' hs'
        rw [hv] at hS
        obtain ⟨L, c, A, hL, hw, hc1, hc2, hc3, hA⟩ := hS
        have hoat : ∀ i, i < len' * f → ob.at (off + i) = old[i]? := fun i hi => by
          have hne : Nat.mul len' f ≠ 0 := by have : Nat.mul len' f = len' * f := rfl; omega
          exact (hld ob hbb hne).2.2 i hi
        have hdd : ob ≠ .dead := fun e => by rw [e] at hoc; cases hoc
        by_cases hfit : len' + n ≤ c
        · obtain rfl : A = L.off + off := hA.resolve_right fun h => by omega
          obtain ⟨⟨ax, cx2, hxv⟩, hone, ws, hws, hfc⟩ := hX ι w (ρ x) hr (hρ x x' hx)
          obtain ⟨ca, tyy, fz, q2, q3, q4, q5, q6⟩ := (orel_cells cx σ hoc).1 (hr.obj b L ob hL hbb)
          have hsz := hc3 f rfl
          have hmul : (len' + n) * f = len' * f + n * f := Nat.add_mul _ _ _
          have hmle : (len' + n) * f ≤ c * f := Nat.mul_le_mul_right f hfit
          have hwl : ws.length = n * f := by rw [hws.length, hnl]
          have hone' : ∀ y ∈ ws, y.oneCell' = true := fun y hy => by
            obtain ⟨j, hj, hjx⟩ := List.getElem_of_mem hy
            have hj' : j < new.length := by rw [hnl]; omega
            obtain ⟨z, hz1, hz2⟩ := hws.get (List.getElem?_eq_getElem hj')
            rw [List.getElem?_eq_getElem hj, Option.some.injEq] at hz1
            rw [← hjx, hz1]
            exact oneCell_of hz2 (hone _ (List.getElem_mem hj'))
          obtain ⟨w', c', e1', e2', e3', e4', e5', e6', e7', e8', e9'⟩ := run_stores (P := P) (b := L.blk) (L.off + off) ws (len' * f) w ca q2 (by omega)
            (fun j ha hb => by have := q5 (j - L.off) (by omega); rwa [show L.off + (j - L.off) = j by omega] at this) hone'
          obtain ⟨ma, mb, mc, md⟩ := mkO_spec (old ++ new)
          have hfull : (old ++ new).length = (len' + n) * f := by rw [List.length_append, ol1, hnl, hmul]
          have hle : Le ι (ι.add h.nx ⟨L.blk, L.off + off, L.sz - off⟩) := Inj.add_le hr.none_nx
          obtain ⟨m2, m3⟩ := hr.move (l' := ⟨L.blk, L.off + off, L.sz - off⟩) (o' := mkO (old ++ new)) hL hbb hdd rfl e2' e3' ((orel_cells cx σ ma).2 ⟨c', tyy, fz, e4', by rw [mb, hfull]; show _ ≤ L.sz - off; omega,
            by rw [e5']; show L.off + off + (L.sz - off) ≤ ca.size; omega, fun i hi => (by have hi' : i < L.sz - off := hi; have := q5 (off + i) (by omega); rwa [← Nat.add_assoc] at this), fun i v hvi => by
              by_cases hi : i < (old ++ new).length
              · rw [mc i hi] at hvi
                by_cases hio : i < len' * f
                · rw [List.getElem?_append_left (by omega), ← hoat i hio] at hvi
                  obtain ⟨y, y1, y2, y3⟩ := q6 (off + i) v hvi
                  refine ⟨y, ?_, VR.mono hle _ _ y2, y3⟩
                  show c'[L.off + off + i]? = some y
                  rw [e6', if_neg (by omega), Nat.add_assoc]; exact y1
                · rw [List.getElem?_append_right (by omega), ol1] at hvi
                  obtain ⟨y, y1, y2⟩ := hws.get hvi
                  refine ⟨y, ?_, VR.mono hle _ _ y2, hone v (List.mem_of_getElem? hvi)⟩
                  show c'[L.off + off + i]? = some y
                  rw [e6', if_pos (by omega), show L.off + off + i - (L.off + off + len' * f) = i - len' * f by omega]; exact y1
              · rw [md i (by omega)] at hvi; cases hvi⟩) e7' e8' e9'
          refine ⟨_, .slice (some ⟨L.blk, L.off + off, none⟩) (len' + n) c, w', _, arm ρ w w' _ ?_, .inl rfl, VR.sl_mk (Inj.add_same _ _ _) rfl hfit (fun h => (by cases h)) (fun q hq => ?_), m2, m3⟩
          · rw [hw, hxv]
            rw [hxv] at hfc
            exact append_fits hy hu hu2 hs hfit hfc (by
              rw [addr_add]
              rw [storeCells_shift]; exact e1')
          · have hq' : f = q := by injection hq
            rw [← hq']; show 0 + c * f ≤ L.sz - off; omega
        · obtain ⟨k1, k2⟩ := hr.put (w' := w) (o' := .dead) hL hbb hdd rfl (fun _ _ => rfl) trivial rfl rfl rfl
          obtain ⟨v', w', ι', m1, m2, m3, m4⟩ := real ι w ρ (h.put b .dead) hr k1 (by simp) hρ L c A hL hw (by omega) (fun h => (by cases h)) (hA.imp_right fun h => h.2.1)
          exact ⟨_, v', w', ι', m1, .inl rfl, m2, m3, k2.trans m4⟩
  · obtain ⟨hn, e2⟩ := ifK_some.1 e2
    rw [V.isNils_iff] at hn
    have hl0 : len = 0 := by
      rw [hn] at hlen
      have : (if 0 = len then some r else none) = some r := hlen
      by_cases hq : 0 = len
      · exact hq.symm
      · rw [if_neg hq] at this; cases this
    subst hl0
    cases n with
    | zero =>
      refine ⟨_, _, e2, fun ι w ρ hr hρ => ?_⟩
      have hS := hρ s s' hs'
      rw [hn, VR.nils] at hS
      obtain ⟨⟨ax, cx2, hxv⟩, hone, ws, hws, hfc⟩ := hX ι w (ρ x) hr (hρ x x' hx)
      rw [hxv] at hfc
      exact ⟨_, .slice none 0 0, w, ι, arm ρ w w _ (by rw [hS, hxv]; exact append_nil0 hy hu hu2 hs hfc), .inl rfl, rfl, hr, Ext.refl _ _ _⟩
    | succ n =>
      have e4 : k (.sl h.nx 0 (n + 1) (n + 1) (some esz)) (h.push (mkO new)) = some r := by
        rw [← e2]; exact (H.alloc_eq h (mkO new) (fun r h' => k (.sl r 0 (n + 1) (n + 1) (some esz)) h')).symm
      refine ⟨_, _, e4, fun ι w ρ hr hρ => ?_⟩
      have hS := hρ s s' hs'
      rw [hn, VR.nils] at hS
      have hrd : Rel cx σ ι h w.drew := hr.drew rfl
      obtain ⟨⟨ax, cx2, hxv⟩, hone, ws, hws, hfc⟩ := hX ι w.drew (ρ x) hrd (hρ x x' hx)
      rw [hxv] at hfc
      obtain ⟨cp, cs, k1, k2, k3, k4⟩ := append_grows (base := none) (len := 0) (c := 0) (ax := ax) (n := n + 1) (cx2 := cx2) (ty := o.type) hy hu hu2 hs hz hby (w := w) (by omega) (by
        rcases hsm with hq | ⟨_, hq2⟩
        · exact small_next (by omega) hq hb
        · rw [Nat.zero_add]; exact zero_next hq2 (by omega)) (old := []) (new := ws) (by simp [Builtin.firstCells]) hfc hzl (by simp) (by rw [hws.length, hnl])
      rw [List.nil_append] at k2
      rw [Nat.zero_add] at k1 k4
      obtain ⟨ι', m1, m2, m3⟩ := grown_sim hr e hws hone k2 k3 k1
      exact ⟨_, _, _, ι', arm ρ w _ _ (by rw [hS, hxv]; exact k4), .inl rfl, m1, m2, m3⟩

theorem append_zeros (hy : Hyp P cx) {sT u e : TypeId} {j : IntKind} {esz by_ : Nat} {zs : List V} {ty : TypeId} (hu : und cx sT = some (.slice e)) (hu2 : und cx u = some (.int j)) (hs : szOf cx e = some esz)
    (hz : zerosOf cx e = some zs) (hby : byOf cx e = some by_) (hb : by_ ≤ 1024) {n : Nat} {w : World} (hgt : 0 < n) (hle : n ≤ 1073741824) (hesz : zs.length = esz) (h0 : esz ≠ 0) {z : Value} {i : TypeInfo} (hi : P.info? e = some i) (hz0 : i.zero = some z)
    (hzsz : z.cells.size = zs.length) :
    ∃ (cap : Nat) (cs : Array Value), n ≤ cap ∧ cs.toList = (Builtin.zeroCells z.cells n).toList ++ cs.toList.drop (Builtin.zeroCells z.cells n).toList.length ∧ cs.size = cap * esz ∧
      (Builtin.append_ #[sT, u] ty #[.slice none 0 0, .int j (.ofNat n)]).run P w = .ok (.slice (some ⟨w.heap.size, 0, none⟩) n cap) (w.drew.alloc (.cells cs e)) := by
  obtain ⟨i', hi', hsz⟩ := info_of hy hs
  rw [hi] at hi'; cases hi'
  obtain ⟨ib, hib, hbytes⟩ := byOf_spec hy hby w
  rw [run_typeInfo w hi] at hib
  have hib' : i = ib := by injection hib
  rw [← hib'] at hbytes
  let q := Question.appendCap (0 + n) 0 e
  have hcap : 0 + n ≤ q.cut (w.tape w.drawn q) := cut_append _ _ _ _
  generalize hcc : q.cut (w.tape w.drawn q) = cap at hcap
  let rest := Builtin.zeroCells z.cells (cap - (0 + n))
  have hrl : rest.size = (cap - (0 + n)) * esz := by simp [rest, Builtin.zeroCells, hzsz, hesz]
  have hnl : (Builtin.zeroCells z.cells n).size = n * esz := by simp [Builtin.zeroCells, hzsz, hesz]
  refine ⟨cap, Builtin.zeroCells z.cells n ++ rest, by omega, by simp, ?_, ?_⟩
  · rw [Array.size_append, hnl, hrl, ← Nat.add_mul]; congr 1; omega
  · have hne : ¬ (0 + n ≤ 0) := by omega
    have h63 : ¬ (9223372036854775807 < (n : Int)) := by omega
    have hng : ¬ ((n : Int) < 0) := by omega
    have hmul : ¬ (281474976710656 < n * i.bytes) := by
      have h2 : i.bytes ≤ 1024 := by omega
      have h3 := Nat.mul_le_mul hle h2
      omega
    have hmulI : ¬ ((281474976710656 : Int) < (n : Int) * (i.bytes : Int)) := by
      rw [← Int.natCast_mul]; omega
    have h48 : ¬ (281474976710656 < Builtin.nextslicecap n 0 * i.bytes) := by
      have h1 := nextcap_le (need := n) (c := 0) hgt hle
      have h2 : i.bytes ≤ 1024 := by omega
      have h3 := Nat.mul_le_mul h1 h2
      omega
    have hu' := und_spec hy hu
    have hu2' := und_spec hy hu2
    have hwr : IntKind.i64.wrap (n : Int) = n := wrap_i64 (by omega) (by omega)
    have hne0 : ¬ n = 0 := by omega
    have hle0 : ¬ ((n : Int) ≤ 0) := by omega
    have hmax : max (n : Int) 0 = n := by omega
    have hnz : ¬ (n * esz = 0) := by rw [Nat.mul_eq_zero]; omega
    subst hsz
    have hcc' : (Question.appendCap n 0 e).cut (w.tape w.drawn (Question.appendCap n 0 e)) = cap := by have := hcc; simpa [q] using this
    have hsz0 : ¬ i.size = 0 := h0
    simp [Builtin.append_, run_underlying hu', run_underlying hu2', sizeOf, typeInfo, zeroValue, hi, hz0, Builtin.lenOf, hne, h63, h48, Question.forced, newRow, hcc', asInt, asIntOf, hwr, hng, hmulI, hne0, hsz0, hle0, hmax, Builtin.firstCells]
    rw [if_neg hnz]
    have hre : rest = Builtin.zeroCells z.cells (cap - n) := by show Builtin.zeroCells z.cells (cap - (0 + n)) = _; rw [Nat.zero_add]
    rw [hre]
theorem s_appz (hy : Hyp P cx) {o : Oper} {sT u e : TypeId} {jk : IntKind} {s x : Operand} {s' x' : Opd} {esz by_ : Nat} {zs : List V} {args : Array Operand} (ho : o.op = .call { callee := .builtin .append, args := args, argTypes := #[sT, u] }) (ha : args.toList = [s, x]) (hs' : ofOpd s = some s') (hx : ofOpd x = some x')
    (hu : und cx sT = some (.slice e)) (hu2 : und cx u = some (.int jk)) (hs : szOf cx e = some esz) (hz : zerosOf cx e = some zs) (hby : byOf cx e = some by_) (hb : by_ ≤ 1024) (hzl : zs.length = esz) (h0 : esz ≠ 0) : Sound cx σ P o (x_appz esz zs s' x') := by
  intro t h k r e0
  have hA : args = #[s, x] := by cases args; simp at ha; subst ha; rfl
  have arm : ∀ (ρ : Operand → Value) (w w' : World) (v : Value), (Builtin.append_ #[sT, u] o.type #[ρ s, ρ x]).run P w = .ok v w' → (execOp ρ o).run P w = .ok (.value v) w' := fun ρ w w' v hv => by
    simp [execOp, ho, hA, resolve, invoke, builtin, hv]
  obtain ⟨j, m, hm, e0⟩ := V.nat_some e0
  obtain ⟨hn, e0⟩ := ifK_some.1 e0
  obtain ⟨hp, e0⟩ := ifK_some.1 e0
  obtain ⟨hle, e0⟩ := ifK_some.1 e0
  rw [V.isNils_iff] at hn
  rw [ltb_iff] at hp
  rw [Nat.ble_eq] at hle
  have e4 : k (.sl h.nx 0 m m (some esz)) (h.push (mkO (repl zs m))) = some r := by
    rw [← e0]; exact (H.alloc_eq h (mkO (repl zs m)) (fun r h' => k (.sl r 0 m m (some esz)) h')).symm
  refine ⟨_, _, e4, fun ι w ρ hr hρ => ?_⟩
  have hS := hρ s s' hs'
  rw [hn, VR.nils] at hS
  have hM := nat_of hm (hρ x x' hx)
  obtain ⟨i, z, hi, hz0, hzz⟩ := zeros_info (σ := σ) hy hz
  have hzsz : z.cells.size = zs.length := by have := (hzz ι).1.length; simpa using this
  have hrs := repl_sim (hzz ι).1 m (by omega)
  have hzc : (Builtin.zeroCells z.cells m).toList = ((Array.range (m * zs.length)).map (z.cells[· % z.cells.size]!)).toList := by rw [Builtin.zeroCells, hzsz]
  rw [← hzc] at hrs
  by_cases hjj : ρ x = .int j (.ofNat m)
  · obtain ⟨cp, cs, k1, k2, k3, k4⟩ := append_zeros (j := jk) (ty := o.type) hy hu hu2 hs hz hby hb (w := w) hp hle hzl h0 hi hz0 hzsz
    obtain ⟨ι', m1, m2, m3⟩ := grown_sim hr e hrs (fun v hv => (hzz ι).2 v (repl_mem hv)) k2 k3 k1
    refine ⟨_, _, _, ι', arm ρ w _ _ ?_, .inl rfl, m1, m2, m3⟩
    rw [hS, hM]
    exact k4
  · exact absurd hM hjj
theorem s_capx (hy : Hyp P cx) {o : Oper} {ty e : TypeId} {x : Operand} {y : Opd} {args : Array Operand} {tys : Array TypeId} (ho : o.op = .call { callee := .builtin .cap, args := args, argTypes := tys }) (ha : args.toList = [x]) (ht : tys.toList[0]? = some ty) (hx : ofOpd x = some y) (hu : und cx ty = some (.slice e)) :
    Sound cx σ P o (x_capx y) := by
  intro t h k r e0
  have ht' : tys[0]? = some ty := by simpa using ht
  have hA : args = #[x] := by cases args; simp at ha; subst ha; rfl
  have run0 : ∀ (ρ : Operand → Value) (a : Option Addr) (n c : Nat) (w : World), ρ x = .slice a n c → (execOp ρ o).run P w = .ok (.value (goInt c)) w := fun ρ a n c w hv => by
    simp [execOp, ho, hA, resolve, invoke, builtin, Builtin.cap_, ht', hv, run_underlying (und_spec hy hu)]
  rcases V.onSl_some e0 with ⟨b, off, n, c, f, hn, e1⟩ | ⟨_, e1⟩
  · cases f with
    | some f => cases e1
    | none =>
      refine ⟨_, h, e1, OSim.same fun ι w ρ hr hρ => ⟨goInt c, ?_, rfl⟩⟩
      have h1 := hρ x y hx
      rw [hn] at h1
      obtain ⟨l, c', A, _, hw, _, hc, _⟩ := h1
      rw [← hc rfl]
      exact run0 ρ _ n c' w hw
  · obtain ⟨hn, e1⟩ := ifK_some.1 e1
    rw [V.isNils_iff] at hn
    refine ⟨_, h, e1, OSim.same fun ι w ρ hr hρ => ⟨goInt 0, ?_, rfl⟩⟩
    have h1 := hρ x y hx
    rw [hn, VR.nils] at h1
    exact run0 ρ none 0 0 w h1
theorem s_copy (hy : Hyp P cx) {o : Oper} {sT u e : TypeId} {d s : Operand} {d' s' : Opd} {esz : Nat} {args : Array Operand} {tys : Array TypeId} (ho : o.op = .call { callee := .builtin .copy, args := args, argTypes := tys }) (ha : args.toList = [d, s]) (ht : tys.toList[0]? = some sT) (hd' : ofOpd d = some d') (hs' : ofOpd s = some s')
    (hu : und cx sT = some (.slice e)) (hs : szOf cx e = some esz) : Sound cx σ P o (x_copy esz d' s') := by
  intro t h k r e0
  have ht' : tys[0]? = some sT := by simpa using ht
  have hA : args = #[d, s] := by cases args; simp at ha; subst ha; rfl
  have lens : ∀ {v : V} {kk : Nat → R}, lenK v kk = some r → ∃ n, kk n = some r ∧ ∀ (ι : Inj) (y : Value), VR σ ι v y → ∃ a c, y = .slice a n c := fun {v kk} e => by
    rcases lenK_some e with ⟨hn, e⟩ | ⟨b, off, n, c, f, hn, e⟩
    · exact ⟨0, e, fun ι y hv => (by rw [hn, VR.nils] at hv; exact ⟨none, 0, hv⟩)⟩
    · exact ⟨n, e, fun ι y hv => (by rw [hn] at hv; obtain ⟨l, cc, A, _, hv, _⟩ := hv; exact ⟨_, cc, hv⟩)⟩
  have e0' : (lenK (d'.ev t) fun dn => lenK (s'.ev t) fun sn => h.elems esz (s'.ev t) (Nat.min sn dn) fun cs =>
    (d'.ev t).onSl (k (.int .i64 (.ofNat (Nat.min sn dn))) h) fun b o _ _ _ => h.stn b o cs fun h' => k (.int .i64 (.ofNat (Nat.min sn dn))) h') = some r := e0
  obtain ⟨dn, e1, hdl⟩ := lens e0'
  obtain ⟨sn, e2, hsl⟩ := lens e1
  obtain ⟨vs, hl, e3, hvs⟩ := elems_sim (P := P) (cx := cx) (σ := σ) e2
  have arm : ∀ (ρ : Operand → Value) (w w' : World) (da sa : Option Addr) (dc sc : Nat) (ws : List Value), ρ d = .slice da dn dc → ρ s = .slice sa sn sc → (Builtin.firstCells esz (Nat.min sn dn) (ρ s)).run P w = .ok ws.toArray w →
      ((match da with | some a => storeCells a ws | none => pure ()) : Sem Unit).run P w = .ok () w' → (execOp ρ o).run P w = .ok (.value (goInt (Nat.min sn dn))) w' := fun ρ w w' da sa dc sc ws h1 h2 h3 h4 => by
    rw [h2] at h3
    have : (Builtin.copy_ tys o.type #[ρ d, ρ s]).run P w = .ok (goInt (Nat.min sn dn)) w' := by
      rw [h1, h2]
      cases da with
      | none =>
        simp only at h4
        have hw : w = w' := by simpa using h4
        subst hw
        simp [Builtin.copy_, ht', run_underlying (und_spec hy hu), Builtin.lenOf, szOf_spec hy hs, h3]
      | some a => simp [Builtin.copy_, ht', run_underlying (und_spec hy hu), Builtin.lenOf, szOf_spec hy hs, h3, h4]
    simp [execOp, ho, hA, resolve, invoke, builtin, this]
  rcases V.onSl_some e3 with ⟨b, off, n, c, f, hn, e4⟩ | ⟨hne, e4⟩
  · obtain ⟨ob, o', hbb, e5, g1, g2, g3, g4, g5, g6⟩ := stn_some e4
    refine ⟨_, _, e5, fun ι w ρ hr hρ => ?_⟩
    obtain ⟨hone, ws, hws, hfc⟩ := hvs ι w (ρ s) hr (hρ s s' hs')
    obtain ⟨da, dc, hd1⟩ := hdl ι (ρ d) (hρ d d' hd')
    obtain ⟨sa, sc, hs1⟩ := hsl ι (ρ s) (hρ s s' hs')
    have hD := hρ d d' hd'
    rw [hn] at hD
    obtain ⟨L, cc, A, hL, hD, _, _, _, hAA⟩ := hD
    rw [hd1] at hD
    injection hD with hda hdn _
    obtain ⟨w', m1, m2, m3⟩ := store_sim (P := P) hr hL hbb g1 g2 g3 g4 g5 g6 hws
    refine ⟨_, _, w', ι, arm ρ w w' da sa dc sc ws hd1 hs1 hfc ?_, .inl rfl, rfl, m2, m3⟩
    rw [hda]
    rcases hAA with rfl | ⟨_, hz, _⟩
    · exact m1
    · have hmin : Nat.min sn dn = 0 := by rw [hdn, hz]; exact Nat.min_zero sn
      have hws0 : ws = [] := List.eq_nil_of_length_eq_zero (by rw [hws.length, hl, hmin]; omega)
      subst hws0
      have hw' : w = w' := by simpa [storeCells] using m1
      subst hw'
      simp [storeCells]
  · refine ⟨_, _, e4, fun ι w ρ hr hρ => ?_⟩
    obtain ⟨hone, ws, hws, hfc⟩ := hvs ι w (ρ s) hr (hρ s s' hs')
    obtain ⟨da, dc, hd1⟩ := hdl ι (ρ d) (hρ d d' hd')
    obtain ⟨sa, sc, hs1⟩ := hsl ι (ρ s) (hρ s s' hs')
    have hdn : d'.ev t = .nils := by
      rcases lenK_some e0' with ⟨hn, _⟩ | ⟨b, off, n, c, f, hn, _⟩
      · exact hn
      · exact absurd hn (hne b off n c f)
    have hD := hρ d d' hd'
    rw [hdn, VR.nils, hd1] at hD
    injection hD with hda _ _
    exact ⟨_, _, w, ι, arm ρ w w da sa dc sc ws hd1 hs1 hfc (by rw [hda]; rfl), .inl rfl, rfl, hr, Ext.refl _ _ _⟩

theorem s_clear (hy : Hyp P cx) {o : Oper} {sT e : TypeId} {x : Operand} {x' : Opd} {zs : List V} {args : Array Operand} {tys : Array TypeId} (ho : o.op = .call { callee := .builtin .clear, args := args, argTypes := tys }) (ha : args.toList = [x]) (ht : tys.toList[0]? = some sT) (hx : ofOpd x = some x')
    (hu : und cx sT = some (.slice e)) (hz : zerosOf cx e = some zs) (h0 : zs ≠ []) : Sound cx σ P o (x_clear zs x') := by
  intro t h k r e0
  have ht' : tys[0]? = some sT := by simpa using ht
  have hA : args = #[x] := by cases args; simp at ha; subst ha; rfl
  rcases V.onSl_some e0 with ⟨b, off, n, c, f, hn, e4⟩ | ⟨hne, e4⟩
  · obtain ⟨ob, o', hbb, e5, g1, g2, g3, g4, g5, g6⟩ := stn_some e4
    refine ⟨_, _, e5, fun ι w ρ hr hρ => ?_⟩
    have hX := hρ x x' hx
    rw [hn] at hX
    obtain ⟨L, cc, A, hL, hX, _, _, _, hAA⟩ := hX
    obtain ⟨i, z, hi, hz0, hzz⟩ := zeros_info (σ := σ) hy hz
    have hzsz : z.cells.size = zs.length := by have := (hzz ι).1.length; simpa using this
    have hrs := repl_sim (hzz ι).1 n (by intro hl; exact h0 (List.eq_nil_of_length_eq_zero hl))
    have hzc : (Builtin.zeroCells z.cells n).toList = ((Array.range (n * zs.length)).map (z.cells[· % z.cells.size]!)).toList := by rw [Builtin.zeroCells, hzsz]
    rw [← hzc] at hrs
    obtain ⟨w', m1, m2, m3⟩ := store_sim (P := P) hr hL hbb g1 g2 g3 g4 g5 g6 hrs
    have hzv : ∀ w : World, (zeroValue e).run P w = .ok z w := fun w => by simp [zeroValue, run_typeInfo w hi, hz0]
    refine ⟨_, .tuple #[], w', ι, ?_, .inl rfl, VR.tup.2 ⟨#[], rfl, rfl⟩, m2, m3⟩
    have : (Builtin.clear_ tys o.type #[ρ x]).run P w = .ok (.tuple #[]) w' := by
      rw [hX]
      cases n with
      | zero =>
        have hw : w = w' := by
          have : (Builtin.zeroCells z.cells 0).toList = [] := by simp [Builtin.zeroCells]
          rw [this] at m1
          simpa [storeCells] using m1
        simp [Builtin.clear_, ht', run_underlying (und_spec hy hu), hw]
      | succ n =>
        obtain rfl : A = L.off + off := hAA.resolve_right fun h => by omega
        simp [Builtin.clear_, ht', run_underlying (und_spec hy hu), hzv, m1]
    simp [execOp, ho, hA, resolve, invoke, builtin, this]
  · cases e4
end
end Go.Ab

/- Each operation that is turned, but for calls, is sound. -/
namespace Go.Ab
section
variable {P : Program} {cx : Cx} {σ : Nat → Int}

theorem part_some {t : TypeId} {n : Option Nat} (h : partOf cx t = some n) : (∃ s, n = some s ∧ szOf cx t = some s ∧ aggOf cx t = some true) ∨ (n = none ∧ aggOf cx t = some false) := by
  unfold partOf at h
  cases hs : szOf cx t with
  | none => cases hg : aggOf cx t <;> simp [hs, hg] at h
  | some s => cases hg : aggOf cx t with
    | none => simp [hs, hg] at h
    | some g => cases g with
      | true => simp [hs, hg] at h; exact .inl ⟨s, h.symm, rfl, rfl⟩
      | false => simp [hs, hg] at h; exact .inr ⟨h.symm, rfl⟩

theorem comp_eq {S : Sy} (hS : SyOk σ P S) (hy : Hyp P cx) {o : Oper} {neg : Bool} {t ty : TypeId} {x y : Operand} {x' y' : Opd} {iop : IOp} (ho : o.op = .binOp (if neg then .neq else .eql) t x y ty) (hx : ofOpd x = some x') (hy' : ofOpd y = some y')
    (hc : compEq cx neg t x' y' = some iop) (E : Env) : Sound cx σ P o (exec S E iop) := by
  unfold compEq at hc
  split at hc
  · simp at hc; subst hc
    exact s_bin hS (by cases neg <;> exact ho) hx hy'
  · rename_i hu; simp at hc; subst hc; exact s_eqv hy ho hx hy' hu ⟨fun _ => rfl, fun h => (by cases h), fun h => (by cases h), fun h => (by cases h), fun h => (by cases h)⟩
  · rename_i hu; simp at hc; subst hc; exact s_eqv hy ho hx hy' hu ⟨fun h => (by cases h), fun _ => ⟨_, rfl⟩, fun h => (by cases h), fun h => (by cases h), fun h => (by cases h)⟩
  · rename_i hu; simp at hc; subst hc; exact s_eqv hy ho hx hy' hu ⟨fun h => (by cases h), fun h => (by cases h), fun _ => ⟨_, rfl⟩, fun h => (by cases h), fun h => (by cases h)⟩
  · rename_i hu; simp at hc; subst hc; exact s_eqv hy ho hx hy' hu ⟨fun h => (by cases h), fun h => (by cases h), fun h => (by cases h), fun _ => ⟨_, _, rfl⟩, fun h => (by cases h)⟩
  · rename_i hu; simp at hc; subst hc; exact s_eqv hy ho hx hy' hu ⟨fun h => (by cases h), fun h => (by cases h), fun h => (by cases h), fun h => (by cases h), fun _ => ⟨_, _, _, rfl⟩⟩
  · rename_i hu
    split at hc
    · rename_i he
      simp at hc
      obtain ⟨sh, hsh, rfl⟩ := hc
      exact s_eqa hS hy ho hx hy' hsh (by unfold aggOf; rw [hu]) he
    · cases hc
  · rename_i hu
    split at hc
    · rename_i he
      simp at hc
      obtain ⟨sh, hsh, rfl⟩ := hc
      exact s_eqa hS hy ho hx hy' hsh (by unfold aggOf; rw [hu]) he
    · cases hc
  · cases hc

theorem comp_sound {S : Sy} (hS : SyOk σ P S) (hy : Hyp P cx) {o : Oper} {iop : IOp} (hc : compOp cx o.op = some iop) (hn : ∀ f args tys, o.op ≠ .call { callee := .value f, args := args, argTypes := tys }) (E : Env) : Sound cx σ P o (exec S E iop) := by
  cases ho : o.op with
  | move x =>
    rw [ho] at hc; simp [compOp, Option.bind_eq_some_iff] at hc
    obtain ⟨y, hy1, rfl⟩ := hc
    exact s_mv (.inl ho) hy1
  | assign x =>
    rw [ho] at hc; simp [compOp, Option.bind_eq_some_iff] at hc
    obtain ⟨y, hy1, rfl⟩ := hc
    exact s_mv (.inr ho) hy1
  | pick c a b =>
    rw [ho] at hc; simp [compOp, Option.bind_eq_some_iff] at hc
    obtain ⟨c', h1, a', h2, b', h3, rfl⟩ := hc
    exact s_pick ho h1 h2 h3
  | alloc e =>
    rw [ho] at hc; simp [compOp, Option.bind_eq_some_iff] at hc
    obtain ⟨z, h1, rfl⟩ := hc
    exact s_new hy ho h1
  | box t x =>
    rw [ho] at hc; simp [compOp, Option.bind_eq_some_iff] at hc
    obtain ⟨y, h1, rfl⟩ := hc
    exact s_box ho h1
  | build t ps =>
    rw [ho] at hc; simp [compOp, Option.bind_eq_some_iff] at hc
    obtain ⟨z, h1, d, h2, hc⟩ := hc
    cases d <;> simp [Option.bind_eq_some_iff] at hc
    · obtain ⟨s, h3, q, h4, rfl⟩ := hc
      exact s_build_array hy ho h1 h2 h3 h4
    · obtain ⟨pl, h3, q, h4, rfl⟩ := hc
      exact s_build_struct hy ho h1 h2 h3 h4
  | buildSlice t n ps =>
    rw [ho] at hc; simp [compOp, Option.bind_eq_some_iff] at hc
    obtain ⟨d, h1, hc⟩ := hc
    cases d <;> simp [Option.bind_eq_some_iff] at hc
    obtain ⟨s, h2, z, h3, ⟨⟨h4, h5⟩, h6⟩, q, h7, rfl⟩ := hc
    exact s_bslice hy ho h3 h1 h2 h4 h5 h6 h7
  | load t a =>
    rw [ho] at hc; simp [compOp, Option.bind_eq_some_iff] at hc
    obtain ⟨p, h1, hc⟩ := hc
    rcases part_some h1 with ⟨s, rfl, h2, h3⟩ | ⟨rfl, h2⟩
    · simp [Option.bind_eq_some_iff] at hc; obtain ⟨y, h4, rfl⟩ := hc; exact s_ldn hy ho h4 h3 h2
    · simp [Option.bind_eq_some_iff] at hc; obtain ⟨y, h4, rfl⟩ := hc; exact s_ld1 hy ho h4 h2
  | store t a x =>
    rw [ho] at hc; simp [compOp, Option.bind_eq_some_iff] at hc
    obtain ⟨p, h1, hc⟩ := hc
    rcases part_some h1 with ⟨s, rfl, h2, h3⟩ | ⟨rfl, h2⟩
    · simp [Option.bind_eq_some_iff] at hc; obtain ⟨y, h4, z, h5, rfl⟩ := hc; exact s_stn hy ho h4 h5 h2
    · simp [Option.bind_eq_some_iff] at hc; obtain ⟨h3, y, h4, z, h5, rfl⟩ := hc; exact s_st1 hy ho h4 h5 h3
  | nilCheck x =>
    rw [ho] at hc; simp [compOp, Option.bind_eq_some_iff] at hc
    obtain ⟨y, h1, rfl⟩ := hc
    exact s_nilck ho h1
  | binOp op t x y ty =>
    rw [ho] at hc
    by_cases h1 : op = .eql
    · subst h1
      simp [compOp, Option.bind_eq_some_iff] at hc
      obtain ⟨x', hx, y', hy', hc⟩ := hc
      exact comp_eq (neg := false) hS hy ho hx hy' hc E
    · by_cases h2 : op = .neq
      · subst h2
        simp [compOp, Option.bind_eq_some_iff] at hc
        obtain ⟨x', hx, y', hy', hc⟩ := hc
        exact comp_eq (neg := true) hS hy ho hx hy' hc E
      · cases op <;> first
          | exact absurd rfl h1
          | exact absurd rfl h2
          | (simp [compOp, Option.bind_eq_some_iff] at hc; obtain ⟨x', hx, y', hy', rfl⟩ := hc; exact s_bin hS ho hx hy')
  | unOp op t x =>
    rw [ho] at hc
    cases op <;> simp [compOp, Option.bind_eq_some_iff] at hc
    all_goals (obtain ⟨y, h1, rfl⟩ := hc; first | exact s_notb ho h1 | exact s_neg ho h1)
  | convert s d x =>
    rw [ho] at hc; simp [compOp, Option.bind_eq_some_iff] at hc
    obtain ⟨⟨ds, h0⟩, dd, h1, hc⟩ := hc
    cases dd <;> simp [Option.bind_eq_some_iff] at hc
    obtain ⟨y, h2, rfl⟩ := hc
    exact s_conv hS hy ho h2 h0 h1
  | makeFunc fn a b =>
    rw [ho] at hc
    cases fn <;> simp [compOp, Option.bind_eq_some_iff] at hc
    obtain ⟨a', h1, b', h2, rfl⟩ := hc
    exact s_mkfn ho h1 h2
  | makeMap t r =>
    rw [ho] at hc
    cases r <;> simp [compOp, Option.bind_eq_some_iff] at hc
    subst hc
    exact s_mkmap ho
  | range t x =>
    rw [ho] at hc; simp [compOp, Option.bind_eq_some_iff] at hc
    obtain ⟨d, h1, hc⟩ := hc
    cases d <;> simp [Option.bind_eq_some_iff] at hc
    obtain ⟨y, h2, rfl⟩ := hc
    exact s_rng hy ho h2 h1
  | next x s =>
    rw [ho] at hc
    cases s <;> simp [compOp, Option.bind_eq_some_iff] at hc
    obtain ⟨y, h2, rfl⟩ := hc
    exact s_nxt ho h2
  | makeSlice t l c =>
    rw [ho] at hc; simp [compOp, Option.bind_eq_some_iff] at hc
    obtain ⟨d, h1, hc⟩ := hc
    cases d <;> simp [Option.bind_eq_some_iff] at hc
    obtain ⟨s, h2, z, h3, ⟨h4, h5⟩, by_, h6, l', h7, c', h8, rfl⟩ := hc
    exact s_mkslice hy ho h7 h8 h3 h1 h2 h6 h4 h5
  | slice t x lo hi mx =>
    rw [ho] at hc; simp [compOp, Option.bind_eq_some_iff] at hc
    obtain ⟨d, h1, hc⟩ := hc
    cases d <;> simp [Option.bind_eq_some_iff] at hc
    · obtain ⟨s, h2, x', h3, lo', h4, hi', h5, mx', h6, rfl⟩ := hc
      exact s_slc hy ho h3 h4 h5 h6 h1 h2
    · obtain ⟨s, h2, x', h3, lo', h4, hi', h5, mx', h6, rfl⟩ := hc
      exact s_slca hy ho h3 h4 h5 h6 h1 h2
  | fieldAddr s x i =>
    rw [ho] at hc; simp [compOp, Option.bind_eq_some_iff] at hc
    obtain ⟨d, h1, hc⟩ := hc
    cases d <;> simp [Option.bind_eq_some_iff] at hc
    obtain ⟨f, h2, hc⟩ := hc
    split at hc
    · rename_i n hns
      simp [Option.bind_eq_some_iff] at hc
      obtain ⟨y, h3, rfl⟩ := hc
      exact s_fa hy ho h3 h1 h2 hns (by omega)
    · cases hc
  | field t x i =>
    rw [ho] at hc; simp [compOp, Option.bind_eq_some_iff] at hc
    obtain ⟨d, h1, hc⟩ := hc
    cases d <;> simp [Option.bind_eq_some_iff] at hc
    obtain ⟨f, h2, n, h3, y, h4, rfl⟩ := hc
    exact s_fld hy ho h4 h1 h2 h3
  | indexAddr t x i =>
    rw [ho] at hc; simp [compOp, Option.bind_eq_some_iff] at hc
    obtain ⟨d, h1, hc⟩ := hc
    cases d <;> simp [Option.bind_eq_some_iff] at hc
    · obtain ⟨s, h2, y, h3, z, h4, rfl⟩ := hc
      exact s_ixs hy ho h3 h4 h1 h2
    · obtain ⟨s, h2, y, h3, z, h4, rfl⟩ := hc
      exact s_ixa hy ho h3 h4 h1 h2
  | index t x i =>
    rw [ho] at hc; simp [compOp, Option.bind_eq_some_iff] at hc
    obtain ⟨d, h1, hc⟩ := hc
    cases d <;> simp [Option.bind_eq_some_iff] at hc
    · obtain ⟨y, h4, z, h5, rfl⟩ := hc
      exact s_sidx hy ho h4 h5 h1
    · obtain ⟨s, h2, n, h3, y, h4, z, h5, rfl⟩ := hc
      exact s_ixv hy ho h4 h5 h1 h2 h3
  | lookup t x i ok =>
    rw [ho] at hc; simp [compOp, Option.bind_eq_some_iff] at hc
    obtain ⟨d, h1, hc⟩ := hc
    cases d <;> simp [Option.bind_eq_some_iff, -Bool.exists_bool] at hc
    obtain ⟨g, h2, sh, h3, z, h4, y, h5, q, h6, rfl⟩ := hc
    exact s_lkp hS hy ho h5 h6 h1 h2 h3 h4
  | mapUpdate t m k x =>
    rw [ho] at hc; simp [compOp, Option.bind_eq_some_iff] at hc
    obtain ⟨d, h1, hc⟩ := hc
    cases d <;> simp [Option.bind_eq_some_iff, -Bool.exists_bool] at hc
    obtain ⟨g, h2, sh, h3, m', h4, k', h5, x', h6, rfl⟩ := hc
    exact s_mset hS hy (.inl ho) h4 h5 h6 h1 h2 h3
  | insert t m k x =>
    rw [ho] at hc; simp [compOp, Option.bind_eq_some_iff] at hc
    obtain ⟨d, h1, hc⟩ := hc
    cases d <;> simp [Option.bind_eq_some_iff, -Bool.exists_bool] at hc
    obtain ⟨g, h2, sh, h3, m', h4, k', h5, x', h6, rfl⟩ := hc
    exact s_mset hS hy (.inr ho) h4 h5 h6 h1 h2 h3
  | extract x i =>
    rw [ho] at hc; simp [compOp, Option.bind_eq_some_iff] at hc
    obtain ⟨y, h1, rfl⟩ := hc
    exact s_ext ho h1
  | call c =>
    obtain ⟨callee, args, tys⟩ := c
    rw [ho] at hc
    cases callee with
    | value f =>
      simp [compOp, Option.bind_eq_some_iff] at hc
      obtain ⟨f', h1, as, h2, rfl⟩ := hc
      exact absurd ho (hn _ _ _)
    | invoke r m => simp [compOp, Option.bind_eq_some_iff] at hc
    | builtin b =>
      have e1 : args = args.toList.toArray := by simp
      have e2 : tys = tys.toList.toArray := by simp
      generalize hA : args.toList = la at hc
      generalize hT : tys.toList = lt at hc
      unfold compOp at hc
      simp only [hA, hT] at hc
      split at hc
      · rename_i s x t u
        simp [Option.bind_eq_some_iff] at hc
        obtain ⟨d, h1, hc⟩ := hc
        cases d <;> simp [Option.bind_eq_some_iff] at hc
        obtain ⟨z, h3, sz, h4, by_, h5, ⟨⟨h6, h7⟩, h8⟩, hc⟩ := hc
        rw [hT] at e2
        split at hc
        · rename_i h2
          simp [Option.bind_eq_some_iff] at hc
          obtain ⟨s', h9, x', h10, rfl⟩ := hc
          exact s_app hy (by rw [ho, e2]) hA h9 h10 h1 h2 h4 h3 h5 h8 h6 h7
        · rename_i h2
          simp [Option.bind_eq_some_iff] at hc
          obtain ⟨s', h9, x', h10, rfl⟩ := hc
          exact s_appz hy (by rw [ho, e2]) hA h9 h10 h1 h2 h4 h3 h5 h8 h6 h7
        · cases hc
      · rename_i x
        simp [Option.bind_eq_some_iff] at hc
        obtain ⟨t, h0, d0, h1, hc⟩ := hc
        cases d0 <;> simp [Option.bind_eq_some_iff] at hc
        obtain ⟨y, h2, rfl⟩ := hc
        exact s_capx hy ho hA (by rw [hT]; exact h0) h2 h1
      · rename_i d s
        simp [Option.bind_eq_some_iff] at hc
        obtain ⟨t, h0, d0, h1, hc⟩ := hc
        cases d0 <;> simp [Option.bind_eq_some_iff] at hc
        obtain ⟨sz, h4, s', h9, x', h10, rfl⟩ := hc
        exact s_copy (u := t) hy ho hA (by rw [hT]; exact h0) h9 h10 h1 h4
      · rename_i x
        simp [Option.bind_eq_some_iff] at hc
        obtain ⟨t, h0, d0, h1, hc⟩ := hc
        cases d0 <;> simp [Option.bind_eq_some_iff] at hc
        · obtain ⟨d1, h2, hc⟩ := hc
          cases d1 <;> simp [Option.bind_eq_some_iff] at hc
          subst hc
          exact s_lenc hy ho hA (by rw [hT]; exact h0) (.inr ⟨_, _, h1, h2⟩)
        · obtain ⟨y, h2, rfl⟩ := hc
          exact s_len hy ho hA (by rw [hT]; exact h0) h2 h1
        · subst hc
          exact s_lenc hy ho hA (by rw [hT]; exact h0) (.inl ⟨_, h1⟩)
        · obtain ⟨y, h2, rfl⟩ := hc
          exact s_lenm hy ho hA (by rw [hT]; exact h0) h2 h1
      · rename_i x
        simp [Option.bind_eq_some_iff] at hc
        obtain ⟨t, h0, d0, h1, hc⟩ := hc
        cases d0 <;> simp [Option.bind_eq_some_iff] at hc
        obtain ⟨z, h2, h3, y, h4, rfl⟩ := hc
        exact s_clear hy ho hA (by rw [hT]; exact h0) h4 h1 h2 h3
      · rename_i m k
        simp [Option.bind_eq_some_iff] at hc
        obtain ⟨t, h0, d0, h1, hc⟩ := hc
        cases d0 <;> simp [Option.bind_eq_some_iff, -Bool.exists_bool] at hc
        obtain ⟨g, h2, sh, h3, m', h4, k', h5, rfl⟩ := hc
        exact s_del hS hy ho hA (by rw [hT]; exact h0) h4 h5 h1 h2 h3
      · simp [Option.bind_eq_some_iff] at hc
        obtain ⟨y, h1, ys, h2, rfl⟩ := hc
        exact s_mnx (isMax := false) ho hA h1 h2
      · simp [Option.bind_eq_some_iff] at hc
        obtain ⟨y, h1, ys, h2, rfl⟩ := hc
        exact s_mnx (isMax := true) ho hA h1 h2
      · cases hc
  | _ => rw [ho] at hc; simp [compOp] at hc
end
end Go.Ab

/- A frame's temporaries; one operation of a region, calls among them; regions in the order of their text. -/
namespace Go.Ab

theorem Hyp.mk' {P : Program} {cx : Cx} (h : Hyp P cx) : Hyp P cx := h

section
variable {P : Program} {cx : Cx} {σ : Nat → Int}

/-- the fence for frames: all functions, whatever depth; a round's frame or not -/
def Fz (ro : Option Nat) : Fence := { Fence.wide with round := ro }
theorem Fz_about (ro : Option Nat) (x : FuncId) : (Fz ro).fn x := trivial
theorem callsIn_Fz {ro ro' : Option Nat} {n : Nat} {f : FuncId} {args : Array Value} {w : World} {R : Ending → World → Prop} (h : CallsIn (Fz ro) n P f args w R) : CallsIn (Fz ro') n P f args w R := h
theorem roundIn_Fz {ro ro' : Option Nat} {n l : Nat} {f : FuncId} {tmps : Array Value} {as bd : Code} {w : World} {R : Ending → World → Prop} (h : RoundIn (Fz ro) n P l f tmps as bd w R) : RoundIn (Fz ro') n P l f tmps as bd w R := h

theorem TRel.opds {ι : Inj} {t : T} {a : Act} (h : TRel σ ι t a.tmps) : Opds σ ι t a.eval := by
  intro x y hx
  cases x with
  | tmp n => simp [ofOpd] at hx; subst hx; exact h n
  | const v =>
    unfold ofOpd at hx
    cases hv : ofV v with
    | none => simp [hv] at hx
    | some z => simp [hv] at hx; subst hx; exact ofV_spec hv ι
  | global g => simp [ofOpd] at hx
  | func f => simp [ofOpd] at hx; subst hx; exact VR.fn.2 ⟨#[], #[], rfl, rfl, rfl⟩

theorem VR.undef {ι : Inj} : VR σ ι (.tup []) undef := VR.tup.2 ⟨#[], rfl, rfl⟩

theorem ev_put_same (d : Pos) (v : V) (t : T) : (Opd.t d).ev (Tr.put d v t) = v := by
  show Option.rec (motive := fun _ => V) (.tup []) (fun v => v) ((Tr.put d v t).get d) = v
  rw [Tr.get_put_same]
theorem ev_put_ne (d d' : Pos) (v : V) (t : T) (h : d' ≠ d) : (Opd.t d').ev (Tr.put d v t) = (Opd.t d').ev t := by
  show Option.rec (motive := fun _ => V) (.tup []) (fun v => v) ((Tr.put d v t).get d') = _
  rw [Tr.get_put_ne _ _ _ _ h]; rfl

theorem TRel.set {ι : Inj} {t : T} {tmps : Array Value} (h : TRel σ ι t tmps) {d : Nat} (hd : d < tmps.size) {v : V} {x : Value} (hv : VR σ ι v x) :
    TRel σ ι (Tr.put (Pos.of d) v t) (tmps.setIfInBounds d x) := by
  intro n
  by_cases e : n = d
  · subst e; rw [ev_put_same]; simpa [Array.getD_eq_getD_getElem?, hd] using hv
  · rw [ev_put_ne _ _ _ _ (fun h => e (Pos.of_inj h))]
    have := h n
    simpa [Array.getD_eq_getD_getElem?, Array.getElem?_setIfInBounds, Ne.symm e] using this

/-- a destination, as it is turned -/
def DstOk (nt : Nat) (dst : Option Nat) (d : Option Pos) : Prop := d = dst.map Pos.of ∧ ∀ x, dst = some x → x < nt
theorem TRel.put {ι : Inj} {t : T} {a : Act} {nt : Nat} (h : TRel σ ι t a.tmps) (hs : a.tmps.size = nt) {dst : Option Nat} {d : Option Pos} (hd : DstOk nt dst d) {v : V} {x : Value} (hv : VR σ ι v x) :
    TRel σ ι (tset d v t) (a.put dst x).tmps ∧ (a.put dst x).tmps.size = nt := by
  obtain ⟨rfl, hlt⟩ := hd
  cases dst with
  | none => exact ⟨h, hs⟩
  | some n => exact ⟨h.set (by rw [hs]; exact hlt n rfl) hv, by simp [Act.put, hs]⟩

/-- what a compiled operation is made of -/
theorem compOpr_eq {nt : Nat} {ops : Array Oper} {late : Nat} {o : Oper} : (∃ op g d, compOpr cx nt ops late o = ⟨d, g, late, op⟩ ∧ compOp cx o.op = some op ∧ compGuard ops o.guard = some g ∧ DstOk nt o.dst d) ∨ compOpr cx nt ops late o = badOpr := by
  unfold compOpr
  split
  · rename_i op g h1 h2 h3; exact .inl ⟨op, g, none, rfl, h1, h2, by rw [h3]; exact ⟨rfl, fun _ h => by cases h⟩⟩
  · rename_i op g d h1 h2 h3
    split
    · rename_i hd; exact .inl ⟨op, g, some (Pos.of d), rfl, h1, h2, by rw [h3]; exact ⟨rfl, fun x h => by cases h; exact hd⟩⟩
    · exact .inr rfl
  · exact .inr rfl

theorem VR.is_bool {ι : Inj} {v : V} {b : Bool} (h : VR σ ι v (.bool b)) : v = .bool b := by
  cases v with
  | bool c => cases (show Value.bool b = .bool c from h); rfl
  | fn f a b => obtain ⟨_, _, h, _⟩ := VR.fn.1 h; cases h
  | agg c => obtain ⟨_, h, _⟩ := VR.agg.1 h; cases h
  | tup c => obtain ⟨_, h, _⟩ := VR.tup.1 h; cases h
  | int k n => cases (show Value.bool b = .int k n from h)
  | str s => cases (show Value.bool b = .string s from h)
  | sym k i => cases (show Value.bool b = .int k (σ i) from h)
  | nilp => cases (show Value.bool b = .pointer none from h)
  | nils => cases (show Value.bool b = .slice none 0 0 from h)
  | nilm => cases (show Value.bool b = .map none from h)
  | nilf => cases (show Value.bool b = .nilFunc from h)
  | ptr => obtain ⟨_, _, h⟩ := h; cases h
  | map => obtain ⟨_, _, h⟩ := h; cases h
  | yield => obtain ⟨_, _, h⟩ := h; cases h
  | sl => obtain ⟨_, _, _, _, h, _⟩ := h; cases h

/-- an operation's guard: asked of both alike -/
theorem wantK_spec {ops : Array Oper} {gd : Option (Nat × Bool)} {g : Option (Pos × Bool)} {o : Oper} (hgd : o.guard = gd) (hg : compGuard ops gd = some g) (t : T) (no yes : R) :
    (wantK g t no yes = yes ∧ ∀ (ι : Inj) (tmps : Array Value), TRel σ ι t tmps → Region.wanted o (yielded ops tmps) = true) ∨
    (wantK g t no yes = no ∧ ∀ (ι : Inj) (tmps : Array Value), TRel σ ι t tmps → Region.wanted o (yielded ops tmps) = false) := by
  cases gd with
  | none =>
    simp [compGuard] at hg; subst hg
    exact .inl ⟨rfl, fun _ _ _ => by simp [Region.wanted, hgd]⟩
  | some p =>
    obtain ⟨j, want⟩ := p
    unfold compGuard at hg
    cases hd : (ops[j]?).bind (·.dst) with
    | none => simp [hd] at hg
    | some d =>
      simp [hd] at hg; subst hg
      have real : ∀ (ι : Inj) (tmps : Array Value), TRel σ ι t tmps → yielded ops tmps j = (match (Opd.t (Pos.of d)).ev t with | .bool b => some b | _ => none) := by
        intro ι tmps ht
        have h1 := ht d
        unfold yielded
        rw [hd]
        simp only [Option.bind_some]
        cases hx : tmps[d]? with
        | none =>
          rw [Array.getD_eq_getD_getElem?, hx] at h1
          cases hv : (Opd.t (Pos.of d)).ev t with
          | bool b => rw [hv] at h1; cases (show undef = .bool b from h1)
          | _ => rfl
        | some x =>
          rw [Array.getD_eq_getD_getElem?, hx] at h1
          simp only [Option.getD_some] at h1
          by_cases hb : ∃ b, x = .bool b
          · obtain ⟨b, rfl⟩ := hb; rw [VR.is_bool h1]
          · cases hv : (Opd.t (Pos.of d)).ev t with
            | bool b => rw [hv] at h1; exact absurd ⟨b, h1⟩ hb
            | _ => cases x <;> first | rfl | exact absurd ⟨_, rfl⟩ hb
      have key : ∀ (ι : Inj) (tmps : Array Value), TRel σ ι t tmps → Region.wanted o (yielded ops tmps) = ((match (Opd.t (Pos.of d)).ev t with | .bool b => some b | _ => none) == some want) := fun ι tmps ht => by
        simp [Region.wanted, hgd, real ι tmps ht]
      have ab : wantK (some (Pos.of d, want)) t no yes = (match (Opd.t (Pos.of d)).ev t with | .bool b => if b = want then yes else no | _ => no) := by
        show V.on ((Opd.t (Pos.of d)).ev t) no (fun b => Bool.rec (motive := fun _ => R) no yes (beqB b want)) _ _ _ _ _ _ _ = _
        cases (Opd.t (Pos.of d)).ev t with
        | bool b => cases b <;> cases want <;> rfl
        | _ => rfl
      rw [ab]
      cases hv : (Opd.t (Pos.of d)).ev t with
      | bool b =>
        by_cases e : b = want
        · left; refine ⟨by simp [e], fun ι tmps ht => by rw [key ι tmps ht, hv]; simp [e]⟩
        · right; refine ⟨by simp [e], fun ι tmps ht => by rw [key ι tmps ht, hv]; simp [e]⟩
      | _ => right; exact ⟨rfl, fun ι tmps ht => by rw [key ι tmps ht, hv]; rfl⟩

/-- what a run of another function, or of a loop's round, comes to -/
def EndsAs (cx : Cx) (σ : Nat → Int) (ι : Inj) (h : H) (w : World) (v : V) (h' : H) (e : Ending) (w' : World) : Prop :=
  ∃ v' ι', e = .returned v' ∧ VR σ ι' v v' ∧ Rel cx σ ι' h' w' ∧ Ext ι ι' h h' w w'

structure EnvOk (P : Program) (cx : Cx) (σ : Nat → Int) (call : Nat → List V → H → K → R) (round : Pos → List V → H → K → R) : Prop where
  call : ∀ f args h k r, call f args h k = some r → ∃ v h', k v h' = some r ∧ ∀ (ι : Inj) (w : World) (xs : Array Value), Rel cx σ ι h w → VRL σ ι args xs.toList →
    (callFunc f xs).run P w = .ok (.enter f xs) w ∧ CallsIn (Fz none) 0 P f xs w (EndsAs cx σ ι h w v h')
  round : ∀ l args h k r, round l args h k = some r → ∃ v h', k v h' = some r ∧ ∀ (ι : Inj) (w : World) (lc : Loc) (xs : Array Value), Rel cx σ ι h w → ι l = some lc → VRL σ ι args xs.toList →
    ∃ f tmps as bd, (Instr.yield lc.blk xs).run P w = .ok (.round lc.blk f tmps as bd) w ∧ RoundIn (Fz none) 0 P lc.blk f tmps as bd w (EndsAs cx σ ι h w v h')

/-- what one operation's abstract run comes to, of whatever kind the operation is -/
def Sim (cx : Cx) (σ : Nat → Int) (P : Program) (o : Oper) (t : T) (h : H) (v : V) (h' : H) : Prop :=
  ∀ (ro : Option Nat) (ι : Inj) (a : Act) (w : World) (K : Act → World → Prop) (Q : Exit → Act → World → Prop), Rel cx σ ι h w → Opds σ ι t a.eval →
    (∀ v' w' ι', VR σ ι' v v' → Rel cx σ ι' h' w' → Ext ι ι' h h' w w' → K (a.put o.dst v') w') → o.wpIn (Fz ro) 0 P a w K Q

theorem not_defer {o : Oper} {iop : IOp} (h : compOp cx o.op = some iop) : ∀ c, o.op ≠ .defer c := by
  intro c e; rw [e] at h; simp [compOp] at h

theorem OSim.sim {o : Oper} {t : T} {h : H} {v : V} {h' : H} (hd : ∀ c, o.op ≠ .defer c) (hs : OSim cx σ P o t h v h') : Sim cx σ P o t h v h' := by
  intro ro ι a w K Q hr hρ hk
  obtain ⟨nx, v', w', ι', h1, h2, h3, h4, h5⟩ := hs ι w a.eval hr hρ
  refine ⟨fun f _ => trivial, ?_⟩
  rw [Oper.semAt_eq _ _ _ hd, h1]
  rcases h2 with rfl | ⟨rfl, rfl⟩
  · exact hk v' w' ι' h3 h4 h5
  · exact hk undef w' ι' h3 h4 h5

theorem call_sim {E : Env} {call : Nat → List V → H → K → R} {round : Pos → List V → H → K → R} {loop : IC → T → H → (T → H → R) → (Option Nat → T → H → R) → R} (hE : E = .mk call round loop) (hok : EnvOk P cx σ call round)
    {o : Oper} {f : Operand} {args : Array Operand} {tys : Array TypeId} (ho : o.op = .call { callee := .value f, args := args, argTypes := tys }) {f' : Opd} {as : List Opd} (hf : ofOpd f = some f') (ha : ofOpds args.toList = some as)
    {t : T} {h : H} {k : K} {r : V × H} (hx : E.callV (f'.ev t) (evs as t) h k = some r) : ∃ v h', k v h' = some r ∧ Sim cx σ P o t h v h' := by
  subst hE
  have hd : ∀ c, o.op ≠ .defer c := fun c e => by rw [ho] at e; cases e
  cases hv : f'.ev t with
  | fn g fs cs =>
    rw [hv] at hx
    obtain ⟨v, h', h1, h2⟩ := hok.call _ _ _ _ _ (show call g (app fs (app (evs as t) cs)) h k = some r from hx)
    refine ⟨v, h', h1, fun ro ι a w K Q hr hρ hk => ⟨fun f _ => trivial, ?_⟩⟩
    have e1 := hρ f f' hf
    rw [hv] at e1
    obtain ⟨x, y, ex, hx1, hy1⟩ := VR.fn.1 e1
    have e2 : VRL σ ι (evs as t) (args.map a.eval).toList := by simpa using evs_sim hρ ha
    obtain ⟨c1, c2⟩ := h2 ι w (x ++ args.map a.eval ++ y) hr (by rw [app_eq, app_eq]; simpa using hx1.append (e2.append hy1))
    rw [Oper.semAt_eq _ _ _ hd]
    have : (execOp a.eval o).run P w = .ok (.enter g (x ++ args.map a.eval ++ y)) w := by
      rw [Array.append_assoc] at c1; simp [execOp, ho, resolve, Deferred.ofValue, ex, invoke, c1]
    rw [this]
    refine ⟨fun hh => (by cases hh), CallsIn.mono (callsIn_Fz c2) fun e w' he => ?_⟩
    obtain ⟨v', ι', rfl, hv', hr', hext⟩ := he
    exact hk v' w' ι' hv' hr' hext
  | yield l =>
    rw [hv] at hx
    obtain ⟨v, h', h1, h2⟩ := hok.round _ _ _ _ _ (show round l (evs as t) h k = some r from hx)
    refine ⟨v, h', h1, fun ro ι a w K Q hr hρ hk => ⟨fun f _ => trivial, ?_⟩⟩
    have e1 := hρ f f' hf
    rw [hv] at e1
    obtain ⟨lc, hl, ex⟩ := e1
    have e2 : VRL σ ι (evs as t) (args.map a.eval).toList := by simpa using evs_sim hρ ha
    obtain ⟨g, tmps, as', bd, c1, c2⟩ := h2 ι w lc (args.map a.eval) hr hl e2
    rw [Oper.semAt_eq _ _ _ hd]
    have : (execOp a.eval o).run P w = .ok (.round lc.blk g tmps as' bd) w := by
      simp [execOp, ho, resolve, Deferred.ofValue, ex, invoke, c1]
    rw [this]
    refine ⟨fun hh => (by cases hh), RoundIn.mono (roundIn_Fz c2) fun e w' he => ?_⟩
    obtain ⟨v', ι', rfl, hv', hr', hext⟩ := he
    exact hk v' w' ι' hv' hr' hext
  | _ => rw [hv] at hx; cases hx

theorem op_sim {S : Sy} (hS : SyOk σ P S) (hy : Hyp P cx) {E : Env} {call : Nat → List V → H → K → R} {round : Pos → List V → H → K → R} {loop : IC → T → H → (T → H → R) → (Option Nat → T → H → R) → R} (hE : E = .mk call round loop) (hok : EnvOk P cx σ call round)
    {o : Oper} {iop : IOp} (hc : compOp cx o.op = some iop) {t : T} {h : H} {k : K} {r : V × H} (hx : exec S E iop t h k = some r) : ∃ v h', k v h' = some r ∧ Sim cx σ P o t h v h' := by
  by_cases hn : ∃ f args tys, o.op = .call { callee := .value f, args := args, argTypes := tys }
  · obtain ⟨f, args, tys, ho⟩ := hn
    rw [ho] at hc
    cases h1 : ofOpd f with
    | none => simp [compOp, h1] at hc
    | some f' => cases h2 : ofOpds args.toList with
      | none => simp [compOp, h1, h2] at hc
      | some as =>
        simp [compOp, h1, h2] at hc
        subst hc
        exact call_sim hE hok ho h1 h2 hx
  · obtain ⟨v, h', h1, h2⟩ := comp_sound hS hy hc (fun f args tys e => hn ⟨f, args, tys, e⟩) E t h k r hx
    exact ⟨v, h', h1, h2.sim (not_defer hc)⟩

/-- a frame stands as told -/
structure Fr (cx : Cx) (σ : Nat → Int) (nt : Nat) (ι : Inj) (t : T) (h : H) (a : Act) (w : World) : Prop where
  rel : Rel cx σ ι h w
  tm : TRel σ ι t a.tmps
  sz : a.tmps.size = nt

/-- a region, its operations taken in a given order that is the turned ones' -/
theorem opers_sound {S : Sy} (hS : SyOk σ P S) (hy : Hyp P cx) {E : Env} {call : Nat → List V → H → K → R} {round : Pos → List V → H → K → R} {loop : IC → T → H → (T → H → R) → (Option Nat → T → H → R) → R} (hE : E = .mk call round loop) (hok : EnvOk P cx σ call round)
    {nt : Nat} {ops : Array Oper} : ∀ (is : List Nat) (l : List Oper), is.map (ops[·]?) = l.map some → ∀ {t : T} {h : H} {k : T → H → R} {r : V × H},
      opers S (l.map (compOpr cx nt ops 0)) E t h k = some r → ∃ t' h', k t' h' = some r ∧ ∀ (ro : Option Nat) (ι : Inj) (a : Act) (w : World) (Q : Exit → Act → World → Prop), Fr cx σ nt ι t h a w →
        (∀ ι' a' w', Fr cx σ nt ι' t' h' a' w' → a'.defers = a.defers → Ext ι ι' h h' w w' → Q .normal a' w') → wpOpsIn (Fz ro) 0 P ops Q is a w := by
  intro is
  induction is with
  | nil =>
    intro l hl t h k r hx
    cases l with
    | cons => simp at hl
    | nil => exact ⟨t, h, hx, fun ro ι a w Q hf hQ => hQ ι a w hf rfl (Ext.refl _ _ _)⟩
  | cons i is ih =>
    intro l hl t h k r hx
    cases l with
    | nil => simp at hl
    | cons o l =>
      simp only [List.map_cons, List.cons.injEq] at hl
      obtain ⟨hi, hl⟩ := hl
      rcases compOpr_eq (cx := cx) (nt := nt) (ops := ops) (late := 0) (o := o) with ⟨op, g, d, e, hc, hg, hd⟩ | e
      · rw [List.map_cons, e] at hx
        rcases wantK_spec (σ := σ) rfl hg t (opers S (l.map (compOpr cx nt ops 0)) E (tset d (.tup []) t) h k) (exec S E op t h fun v h' => opers S (l.map (compOpr cx nt ops 0)) E (tset d v t) h' k) with ⟨ew, hw⟩ | ⟨ew, hw⟩
        · have hx' : exec S E op t h (fun v h' => opers S (l.map (compOpr cx nt ops 0)) E (tset d v t) h' k) = some r := ew.symm.trans hx
          obtain ⟨v, h1, hx1, hsim⟩ := op_sim hS hy hE hok hc hx'
          obtain ⟨t', h', hk, hrest⟩ := ih l hl hx1
          refine ⟨t', h', hk, fun ro ι a w Q hf hQ => ?_⟩
          simp only [wpOpsIn, hi, hw ι a.tmps hf.tm, if_true]
          refine hsim ro ι a w _ Q hf.rel hf.tm.opds fun v' w' ι' hv hr hext => ?_
          obtain ⟨p1, p2⟩ := (hf.tm.mono hext.le).put hf.sz hd hv
          exact hrest ro ι' _ w' Q ⟨hr, p1, p2⟩ fun ι2 a2 w2 hf2 hd2 hext2 => hQ ι2 a2 w2 hf2 (hd2.trans (by cases o.dst <;> rfl)) (hext.trans hext2)
        · have hx' : opers S (l.map (compOpr cx nt ops 0)) E (tset d (.tup []) t) h k = some r := ew.symm.trans hx
          obtain ⟨t', h', hk, hrest⟩ := ih l hl hx'
          refine ⟨t', h', hk, fun ro ι a w Q hf hQ => ?_⟩
          simp only [wpOpsIn, hi, hw ι a.tmps hf.tm, if_false, Bool.false_eq_true]
          refine ⟨fun _ _ => trivial, ?_⟩
          obtain ⟨p1, p2⟩ := hf.tm.put hf.sz hd VR.undef
          exact hrest ro ι _ w Q ⟨hf.rel, p1, p2⟩ fun ι2 a2 w2 hf2 hd2 hext2 => hQ ι2 a2 w2 hf2 (hd2.trans (by cases o.dst <;> rfl)) hext2
      · rw [List.map_cons, e] at hx
        cases hx
end
end Go.Ab

/- What an operation's run looks at: its operands alone; which runs do not look at the memory; which only read it; which only make a block. -/
namespace Go.Ab

theorem evs_congr {l : List Opd} {t t' : T} (h : ∀ x ∈ l, x.ev t = x.ev t') : evs l t = evs l t' := by
  induction l with
  | nil => rfl
  | cons x l ih =>
    show x.ev t :: evs l t = x.ev t' :: evs l t'
    rw [h x (by simp), ih fun y hy => h y (by simp [hy])]
theorem evo_congr {x : Option Opd} {t t' : T} (h : ∀ y ∈ x.toList, y.ev t = y.ev t') : evo x t = evo x t' := by
  cases x with
  | none => rfl
  | some x => show some (x.ev t) = some (x.ev t'); rw [h x (by simp)]
theorem fillK_congr {ps : List (Nat × Nat × Opd)} {t t' : T} (h : ∀ x ∈ ps.map (·.2.2), x.ev t = x.ev t') (l : List V) (k : List V → R) : fillK ps t l k = fillK ps t' l k := by
  induction ps generalizing l with
  | nil => rfl
  | cons p ps ih =>
    show ifK (p.2.2.ev t).bx (ifK (Nat.beq (llen (p.2.2.ev t).cells) p.2.1) (ifK (Nat.ble (p.1 + p.2.1) (llen l)) (fillK ps t (lsets (p.2.2.ev t).cells l p.1) k))) =
      ifK (p.2.2.ev t').bx (ifK (Nat.beq (llen (p.2.2.ev t').cells) p.2.1) (ifK (Nat.ble (p.1 + p.2.1) (llen l)) (fillK ps t' (lsets (p.2.2.ev t').cells l p.1) k)))
    rw [h p.2.2 (by simp), ih fun x hx => h x (by simp only [List.map_cons, List.mem_cons]; exact .inr hx)]
theorem mnxK_congr {b : Bool} {j : IntKind} {ys : List Opd} {t t' : T} (h : ∀ x ∈ ys, x.ev t = x.ev t') (n : Int) (k : V → R) : mnxK b j ys t n k = mnxK b j ys t' n k := by
  induction ys generalizing n with
  | nil => rfl
  | cons y ys ih =>
    show (y.ev t).onInt none (fun _ m => mnxK b j ys t _ k) = (y.ev t').onInt none (fun _ m => mnxK b j ys t' _ k)
    rw [h y (by simp)]
    congr 1; funext _ m
    exact ih (fun x hx => h x (by simp [hx])) _

theorem exec_congr {S : Sy} {E : Env} {op : IOp} {t t' : T} (hh : ∀ x ∈ op.opds, x.ev t = x.ev t') (h : H) (k : K) : exec S E op t h k = exec S E op t' h k := by
  cases op with
  | build zs ps => exact fillK_congr hh _ _
  | bslice n zs ps => exact fillK_congr hh _ _
  | mkfn f a b =>
    show k (.fn f (evs a t) (evs b t)) h = k (.fn f (evs a t') (evs b t')) h
    rw [evs_congr fun x hx => hh x (by simp [IOp.opds, hx]), evs_congr (l := b) fun x hx => hh x (by simp [IOp.opds, hx])]
  | call f as =>
    show E.callV (f.ev t) (evs as t) h k = E.callV (f.ev t') (evs as t') h k
    rw [hh f (by simp [IOp.opds]), evs_congr fun x hx => hh x (by simp [IOp.opds, hx])]
  | mnx b x ys =>
    show (x.ev t).onInt none (fun j n => mnxK b j ys t n fun v => k v h) = (x.ev t').onInt none (fun j n => mnxK b j ys t' n fun v => k v h)
    rw [hh x (by simp [IOp.opds])]
    congr 1; funext j n
    exact mnxK_congr (fun y hy => hh y (by simp [IOp.opds, hy])) _ _
  | slc esz x lo hi mx =>
    have h1 := hh x (by simp [IOp.opds])
    have h2 := evo_congr (x := lo) fun y hy => hh y (by simp only [IOp.opds, List.mem_cons, List.mem_append]; exact .inr (.inl (.inl hy)))
    have h3 := evo_congr (x := hi) fun y hy => hh y (by simp only [IOp.opds, List.mem_cons, List.mem_append]; exact .inr (.inl (.inr hy)))
    have h4 := evo_congr (x := mx) fun y hy => hh y (by simp only [IOp.opds, List.mem_cons, List.mem_append]; exact .inr (.inr hy))
    show x_slc esz x lo hi mx t h k = x_slc esz x lo hi mx t' h k
    simp only [x_slc, h1, h2, h3, h4]
  | slca n esz x lo hi mx =>
    have h1 := hh x (by simp [IOp.opds])
    have h2 := evo_congr (x := lo) fun y hy => hh y (by simp only [IOp.opds, List.mem_cons, List.mem_append]; exact .inr (.inl (.inl hy)))
    have h3 := evo_congr (x := hi) fun y hy => hh y (by simp only [IOp.opds, List.mem_cons, List.mem_append]; exact .inr (.inl (.inr hy)))
    have h4 := evo_congr (x := mx) fun y hy => hh y (by simp only [IOp.opds, List.mem_cons, List.mem_append]; exact .inr (.inr hy))
    show x_slca n esz x lo hi mx t h k = x_slca n esz x lo hi mx t' h k
    simp only [x_slca, h1, h2, h3, h4]
  | new zs => rfl
  | mkmap => rfl
  | bad => rfl
  | mv x => have h1 := hh x (by simp [IOp.opds]); show x_mv x t h k = x_mv x t' h k; simp only [x_mv, h1]
  | box x => have h1 := hh x (by simp [IOp.opds]); show x_box x t h k = x_box x t' h k; simp only [x_box, h1]
  | ld1 x => have h1 := hh x (by simp [IOp.opds]); show x_ld1 x t h k = x_ld1 x t' h k; simp only [x_ld1, h1]
  | ldn n x => have h1 := hh x (by simp [IOp.opds]); show x_ldn n x t h k = x_ldn n x t' h k; simp only [x_ldn, h1]
  | nilck x => have h1 := hh x (by simp [IOp.opds]); show x_nilck x t h k = x_nilck x t' h k; simp only [x_nilck, h1]
  | notb x => have h1 := hh x (by simp [IOp.opds]); show x_notb x t h k = x_notb x t' h k; simp only [x_notb, h1]
  | neg x => have h1 := hh x (by simp [IOp.opds]); show x_neg x t h k = x_neg x t' h k; simp only [x_neg, h1]
  | conv j x => have h1 := hh x (by simp [IOp.opds]); show x_conv S j x t h k = x_conv S j x t' h k; simp only [x_conv, h1]
  | fa o x => have h1 := hh x (by simp [IOp.opds]); show x_fa o x t h k = x_fa o x t' h k; simp only [x_fa, h1]
  | fld n o x => have h1 := hh x (by simp [IOp.opds]); show x_fld n o x t h k = x_fld n o x t' h k; simp only [x_fld, h1]
  | ext x i => have h1 := hh x (by simp [IOp.opds]); show x_ext x i t h k = x_ext x i t' h k; simp only [x_ext, h1]
  | len x => have h1 := hh x (by simp [IOp.opds]); show x_len x t h k = x_len x t' h k; simp only [x_len, h1]
  | lenm x => have h1 := hh x (by simp [IOp.opds]); show x_lenm x t h k = x_lenm x t' h k; simp only [x_lenm, h1]
  | clear zs x => have h1 := hh x (by simp [IOp.opds]); show x_clear zs x t h k = x_clear zs x t' h k; simp only [x_clear, h1]
  | sidx a x => have h1 := hh a (by simp [IOp.opds]); have h2 := hh x (by simp [IOp.opds]); show x_sidx a x t h k = x_sidx a x t' h k; simp only [x_sidx, h1, h2]
  | rng x => have h1 := hh x (by simp [IOp.opds]); show x_rng x t h k = x_rng x t' h k; simp only [x_rng, h1]
  | nxt x => have h1 := hh x (by simp [IOp.opds]); show x_nxt x t h k = x_nxt x t' h k; simp only [x_nxt, h1]
  | capx x => have h1 := hh x (by simp [IOp.opds]); show x_capx x t h k = x_capx x t' h k; simp only [x_capx, h1]
  | appz e z a x => have h1 := hh a (by simp [IOp.opds]); have h2 := hh x (by simp [IOp.opds]); show x_appz e z a x t h k = x_appz e z a x t' h k; simp only [x_appz, h1, h2]
  | pick c a b => have h1 := hh c (by simp [IOp.opds]); have h2 := hh a (by simp [IOp.opds]); have h3 := hh b (by simp [IOp.opds]); show x_pick c a b t h k = x_pick c a b t' h k; simp only [x_pick, h1, h2, h3]
  | mset g s m y x => have h1 := hh m (by simp [IOp.opds]); have h2 := hh y (by simp [IOp.opds]); have h3 := hh x (by simp [IOp.opds]); show x_mset S g s m y x t h k = x_mset S g s m y x t' h k; simp only [x_mset, h1, h2, h3]
  | st1 a x => have h1 := hh a (by simp [IOp.opds]); have h2 := hh x (by simp [IOp.opds]); show x_st1 a x t h k = x_st1 a x t' h k; simp only [x_st1, h1, h2]
  | stn n a x => have h1 := hh a (by simp [IOp.opds]); have h2 := hh x (by simp [IOp.opds]); show x_stn n a x t h k = x_stn n a x t' h k; simp only [x_stn, h1, h2]
  | bin o a x => have h1 := hh a (by simp [IOp.opds]); have h2 := hh x (by simp [IOp.opds]); show x_bin S o a x t h k = x_bin S o a x t' h k; simp only [x_bin, h1, h2]
  | eqv c n a x => have h1 := hh a (by simp [IOp.opds]); have h2 := hh x (by simp [IOp.opds]); show x_eqv c n a x t h k = x_eqv c n a x t' h k; simp only [x_eqv, h1, h2]
  | eqa c n a x => have h1 := hh a (by simp [IOp.opds]); have h2 := hh x (by simp [IOp.opds]); show x_eqa S c n a x t h k = x_eqa S c n a x t' h k; simp only [x_eqa, h1, h2]
  | mkslice e z b a x => have h1 := hh a (by simp [IOp.opds]); have h2 := hh x (by simp [IOp.opds]); show x_mkslice e z b a x t h k = x_mkslice e z b a x t' h k; simp only [x_mkslice, h1, h2]
  | ixs e a x => have h1 := hh a (by simp [IOp.opds]); have h2 := hh x (by simp [IOp.opds]); show x_ixs e a x t h k = x_ixs e a x t' h k; simp only [x_ixs, h1, h2]
  | ixa l e a x => have h1 := hh a (by simp [IOp.opds]); have h2 := hh x (by simp [IOp.opds]); show x_ixa l e a x t h k = x_ixa l e a x t' h k; simp only [x_ixa, h1, h2]
  | ixv l n e a x => have h1 := hh a (by simp [IOp.opds]); have h2 := hh x (by simp [IOp.opds]); show x_ixv l n e a x t h k = x_ixv l n e a x t' h k; simp only [x_ixv, h1, h2]
  | lkp g s z o a x => have h1 := hh a (by simp [IOp.opds]); have h2 := hh x (by simp [IOp.opds]); show x_lkp S g s z o a x t h k = x_lkp S g s z o a x t' h k; simp only [x_lkp, h1, h2]
  | app e b_ a x => have h1 := hh a (by simp [IOp.opds]); have h2 := hh x (by simp [IOp.opds]); show x_app e b_ a x t h k = x_app e b_ a x t' h k; simp only [x_app, h1, h2]
  | copy e a x => have h1 := hh a (by simp [IOp.opds]); have h2 := hh x (by simp [IOp.opds]); show x_copy e a x t h k = x_copy e a x t' h k; simp only [x_copy, h1, h2]
  | del g s a x => have h1 := hh a (by simp [IOp.opds]); have h2 := hh x (by simp [IOp.opds]); show x_del S g s a x t h k = x_del S g s a x t' h k; simp only [x_del, h1, h2]

/-! ### words that hand on at most one thing, whatever comes behind -/
def Cp {β : Type} (F : (β → R) → R) : Prop := (∀ k, F k = none) ∨ ∃ v, ∀ k, F k = k v
theorem Cp.none {β : Type} : Cp (fun _ : β → R => none) := .inl fun _ => rfl
theorem Cp.ret {β : Type} (v : β) : Cp (fun k => k v) := .inr ⟨v, fun _ => rfl⟩
theorem Cp.bind {α β : Type} {F : (α → R) → R} {G : α → (β → R) → R} (hF : Cp F) (hG : ∀ a, Cp (G a)) : Cp (fun k => F (fun a => G a k)) := by
  rcases hF with h | ⟨v, h⟩
  · exact .inl fun k => h _
  · rcases hG v with g | ⟨u, g⟩
    · exact .inl fun k => (h _).trans (g k)
    · exact .inr ⟨u, fun k => (h _).trans (g k)⟩
section cp
variable {β : Type}
theorem Cp.ifK {b : Bool} {F : (β → R) → R} (h : Cp F) : Cp (fun k => Ab.ifK b (F k)) := by cases b; exact .none; exact h
theorem Cp.onPtr {v : V} {G : Pos → Nat → (β → R) → R} (h : ∀ b o, Cp (G b o)) : Cp (fun k => v.onPtr fun b o => G b o k) := by cases v <;> first | exact h _ _ | exact .none
theorem Cp.onBool {v : V} {G : Bool → (β → R) → R} (h : ∀ b, Cp (G b)) : Cp (fun k => v.onBool fun b => G b k) := by cases v <;> first | exact h _ | exact .none
theorem Cp.onStr {v : V} {G : ByteArray → (β → R) → R} (h : ∀ b, Cp (G b)) : Cp (fun k => v.onStr fun b => G b k) := by cases v <;> first | exact h _ | exact .none
theorem Cp.onAgg {v : V} {G : List V → (β → R) → R} (h : ∀ b, Cp (G b)) : Cp (fun k => v.onAgg fun b => G b k) := by cases v <;> first | exact h _ | exact .none
theorem Cp.onTup {v : V} {G : List V → (β → R) → R} (h : ∀ b, Cp (G b)) : Cp (fun k => v.onTup fun b => G b k) := by cases v <;> first | exact h _ | exact .none
theorem Cp.onInt {v : V} {D : (β → R) → R} {G : IntKind → Int → (β → R) → R} (hD : Cp D) (h : ∀ j n, Cp (G j n)) : Cp (fun k => v.onInt (D k) fun j n => G j n k) := by cases v <;> first | exact h _ _ | exact hD
theorem Cp.onSl {v : V} {D : (β → R) → R} {G : Pos → Nat → Nat → Nat → Option Nat → (β → R) → R} (hD : Cp D) (h : ∀ a b c d e, Cp (G a b c d e)) : Cp (fun k => v.onSl (D k) fun a b c d e => G a b c d e k) := by cases v <;> first | exact h _ _ _ _ _ | exact hD
theorem Cp.onMap {v : V} {D : (β → R) → R} {G : Pos → (β → R) → R} (hD : Cp D) (h : ∀ a, Cp (G a)) : Cp (fun k => v.onMap (D k) fun a => G a k) := by cases v <;> first | exact h _ | exact hD
theorem Cp.nat {v : V} {G : Nat → (β → R) → R} (h : ∀ n, Cp (G n)) : Cp (fun k => v.nat fun n => G n k) := by
  cases v with
  | int j n => cases n; exact h _; exact .none
  | _ => exact .none
theorem Cp.bool {b : Bool} {F G : (β → R) → R} (hF : Cp F) (hG : Cp G) : Cp (fun k => Bool.rec (motive := fun _ => R) (F k) (G k) b) := by cases b; exact hF; exact hG
theorem Cp.opt {α : Type} {o : Option α} {D : (β → R) → R} {G : α → (β → R) → R} (hD : Cp D) (h : ∀ a, Cp (G a)) : Cp (fun k => Option.rec (motive := fun _ => R) (D k) (fun a => G a k) o) := by cases o; exact hD; exact h _
theorem Cp.nthK (l : List V) : ∀ n, Cp (fun k => Ab.nthK l n k) := by
  induction l with
  | nil => intro n; exact .none
  | cons a l ih => intro n; cases n; exact .ret a; exact ih _
theorem Cp.wrapK (j : IntKind) (n : Int) : Cp (fun k => Ab.wrapK j n k) := by
  cases j
  case i64 =>
    cases n with
    | ofNat x => exact .bool (.ret _) (.ret _)
    | negSucc x => exact .bool (.ret _) (.ret _)
  all_goals exact .ret _
theorem Cp.nn {a b : Int} {G : Nat → Nat → (β → R) → R} (h : ∀ x y, Cp (G x y)) : Cp (fun k => Ab.nn a b fun x y => G x y k) := by
  cases a <;> cases b <;> first | exact h _ _ | exact .none
theorem Cp.binInt (op : BinOp) (i j : IntKind) (a b : Int) : Cp (fun k => Ab.binInt op i j a b k) := by
  cases op <;> first
    | exact .ifK (.bind (.wrapK _ _) fun n => .ret _)
    | exact .ifK (.ifK (.bind (.wrapK _ _) fun n => .ret _))
    | exact .ifK (.ifK (.ret _))
    | exact .ifK (.nn fun _ _ => .bind (.wrapK _ _) fun n => .ret _)
    | exact .ifK (.ret _)
theorem Cp.eqcK (S : Sy) (b : Bool) (v w : V) : Cp (fun k => Ab.eqcK S b v w k) :=
  .bool (.onInt (.opt .none fun x => .onBool fun b => .ret b) fun _ _ => .onInt (.opt .none fun x => .onBool fun b => .ret b) fun _ _ => .ifK (.ret _)) (.onBool fun _ => .onBool fun _ => .ret _)
theorem Cp.eqL (S : Sy) (sh : List Bool) : ∀ vs ws, Cp (fun k => Ab.eqL S sh vs ws k) := by
  induction sh with
  | nil => intro vs ws; cases vs <;> cases ws <;> first | exact .ret _ | exact .none
  | cons b sh ih =>
    intro vs ws
    cases vs with
    | nil => exact .none
    | cons v vs => cases ws with
      | nil => exact .none
      | cons w ws => exact Cp.bind (F := fun k => Ab.eqcK S b v w k) (G := fun r k => Bool.rec (motive := fun _ => R) (k false) (Ab.eqL S sh vs ws k) r) (.eqcK S b v w) fun r => .bool (.ret _) (ih vs ws)
theorem Cp.eqLK (S : Sy) (sh : List Bool) (vs ws : List V) : Cp (fun k => Ab.eqLK S sh vs ws k) := .ifK (.ifK (.eqL S sh vs ws))
theorem Cp.fillK (ps : List (Nat × Nat × Opd)) (t : T) : ∀ l, Cp (fun k => Ab.fillK ps t l k) := by
  induction ps with
  | nil => intro l; exact .ret l
  | cons p ps ih => intro l; exact .ifK (.ifK (.ifK (ih _)))
theorem Cp.mnxK (b : Bool) (j : IntKind) (ys : List Opd) (t : T) : ∀ n, Cp (fun k => Ab.mnxK b j ys t n k) := by
  induction ys with
  | nil => intro n; exact .ret _
  | cons y ys ih => intro n; exact .onInt .none fun _ _ => ih _
theorem Cp.bnd (x : Option V) (y d : Nat) : Cp (fun k => Ab.bnd x y d k) := .opt (.ret d) fun v => .nat fun n => .ifK (.ret n)
theorem Cp.bounds {len cap : Nat} {lo hi mx : Option V} {G : Nat → Nat → Nat → (β → R) → R} (h : ∀ a b c, Cp (G a b c)) : Cp (fun k => Ab.bounds len cap lo hi mx fun a b c => G a b c k) :=
  .bind (.bnd mx cap cap) fun m => .opt (.opt (.bind (.bnd lo len 0) fun l => h _ _ _) fun _ => .none) fun _ => .bind (.bnd hi m len) fun _ => .bind (.bnd lo _ 0) fun _ => h _ _ _
theorem Cp.slcE (esz : Nat) (b : Pos) (o len cap : Nat) (fx : Option Nat) (lo hi mx : Option V) : Cp (fun k => Ab.slcE esz b o len cap fx lo hi mx k) :=
  .opt (.bounds fun _ _ _ => .bool (.ret _) (.ret _)) fun e => .opt (.ifK (.ifK (.bind (.bnd hi len len) fun _ => .bind (.bnd lo _ 0) fun _ => .ret _))) fun _ => .bounds fun _ _ _ => .bool (.ifK (.ret _)) (.ret _)
theorem Cp.partK (n : Option Nat) (c : List V) (off : Nat) : Cp (fun k => Ab.partK n c off k) := .opt (.nthK c off) fun n => .ifK (.ret _)
theorem Cp.lenK (s : V) : Cp (fun k => Ab.lenK s k) := .onSl (.ifK (.ret 0)) fun _ _ _ _ _ => .ret _
theorem Cp.keyCells (ag : Bool) (v : V) : Cp (fun k => Ab.keyCells ag v k) := .bool (.ifK (.ret _)) (.onAgg fun _ => .ret _)
theorem Cp.keyEq (S : Sy) (ag : Bool) (sh : List Bool) (a b : V) : Cp (fun k => Ab.keyEq S ag sh a b k) :=
  Cp.bind (F := fun k => Ab.keyCells ag a k) (G := fun x k => Ab.keyCells ag b fun y => Ab.eqLK S sh x y k) (.keyCells ag a) fun x => Cp.bind (F := fun k => Ab.keyCells ag b k) (G := fun y k => Ab.eqLK S sh x y k) (.keyCells ag b) fun y => .eqLK S sh x y
theorem Cp.findK (S : Sy) (ag : Bool) (sh : List Bool) (key : V) (es : List (V × V)) : Cp (fun k => Ab.findK S ag sh key es k) := by
  induction es with
  | nil => exact .ret _
  | cons e es ih => exact Cp.bind (F := fun k => Ab.keyEq S ag sh key e.1 k) (G := fun b k => Bool.rec (motive := fun _ => R) (Ab.findK S ag sh key es k) (k (some e.2)) b) (.keyEq S ag sh key e.1) fun b => .bool ih (.ret _)
theorem Cp.lkR (z : V) (ok : Bool) (r : Option V) : Cp (fun k => Ab.lkR z ok r k) := .bool (.opt (.ret _) fun _ => .ret _) (.opt (.ret _) fun _ => .ret _)
theorem Cp.keyOk {ag : Bool} {sh : List Bool} {a : V} {F : (β → R) → R} (h : Cp F) : Cp (fun k => Ab.keyOk ag sh a (F k)) := .bind (.keyCells ag a) fun _ => .ifK h
theorem Cp.nthB (l : List UInt8) (n : Nat) : Cp (fun k => Ab.nthB l n k) := by
  induction l generalizing n with
  | nil => exact .none
  | cons b l ih => cases n with
    | zero => exact .ret _
    | succ n => exact ih n
theorem Cp.getO (o : O) (i : Nat) : Cp (fun k => o.getK i k) := by
  cases o with
  | lst l => exact .nthK l i
  | big n m zs t => exact .ifK (.opt (.nthK _ _) fun v => .ret v)
  | _ => exact .none
theorem Cp.getcs (o : O) (n : Nat) : ∀ i, Cp (fun k => Ab.getcs o n i k) := by
  induction n with
  | zero => intro i; exact .ret []
  | succ n ih => intro i; exact Cp.bind (F := fun k => o.getK i k) (G := fun v k => Ab.getcs o n (Nat.succ i) fun vs => k (v :: vs)) (.getO o i) fun v => Cp.bind (F := fun k => Ab.getcs o n (Nat.succ i) k) (G := fun vs k => k (v :: vs)) (ih _) fun vs => .ret _
theorem Cp.getH (h : H) (b : Pos) : Cp (fun k => h.getK b k) := by cases h; exact .opt .none fun _ => .ret _
end cp

/-! ### kind 0: the memory is not looked at -/
theorem kind0 {S : Sy} {E : Env} {op : IOp} (hk : op.kind = 0) (t : T) : ∃ F : (V → R) → R, Cp F ∧ ∀ h k, exec S E op t h k = F (fun v => k v h) := by
  cases op <;> first
    | (cases hk; done)
    | exact ⟨_, .ret _, fun _ _ => rfl⟩
    | exact ⟨_, .onBool fun w => .bool (.ret _) (.ret _), fun _ _ => rfl⟩
    | exact ⟨_, .bind (.fillK _ _ _) fun _ => .ret _, fun _ _ => rfl⟩
    | exact ⟨_, .onPtr fun _ _ => .ret _, fun _ _ => rfl⟩
    | exact ⟨_, .onInt (.opt .none fun _ => .ret _) fun _ _ => .onInt (.opt .none fun _ => .ret _) fun _ _ => .binInt _ _ _ _ _, fun _ _ => rfl⟩
    | exact ⟨_, .ifK (.opt .none fun _ => .ret _), fun _ _ => rfl⟩
    | exact ⟨_, .onAgg fun _ => .onAgg fun _ => .bind (.eqLK _ _ _ _) fun _ => .ret _, fun _ _ => rfl⟩
    | exact ⟨_, .onBool fun _ => .ret _, fun _ _ => rfl⟩
    | exact ⟨_, .onInt .none fun _ _ => .bind (.wrapK _ _) fun _ => .ret _, fun _ _ => rfl⟩
    | exact ⟨_, .onInt (.opt .none fun _ => .ret _) fun _ _ => .bind (.wrapK _ _) fun _ => .ret _, fun _ _ => rfl⟩
    | exact ⟨_, .onSl (.ifK (.bounds fun _ _ _ => .ret _)) fun _ _ _ _ _ => .slcE _ _ _ _ _ _ _ _ _, fun _ _ => rfl⟩
    | exact ⟨_, .onPtr fun _ _ => .slcE _ _ _ _ _ _ _ _ _, fun _ _ => rfl⟩
    | exact ⟨_, .onSl .none fun _ _ _ _ _ => .nat fun _ => .ifK (.ret _), fun _ _ => rfl⟩
    | exact ⟨_, .onPtr fun _ _ => .nat fun _ => .ifK (.ret _), fun _ _ => rfl⟩
    | exact ⟨_, .onAgg fun _ => .partK _ _ _, fun _ _ => rfl⟩
    | exact ⟨_, .onAgg fun _ => .nat fun _ => .ifK (.partK _ _ _), fun _ _ => rfl⟩
    | exact ⟨_, .onTup fun _ => .nthK _ _, fun _ _ => rfl⟩
    | exact ⟨_, Cp.bind (F := fun k => Ab.lenK _ k) (G := fun n k => k (V.int .i64 (.ofNat n))) (.lenK _) fun _ => .ret _, fun _ _ => rfl⟩
    | exact ⟨_, .onInt .none fun _ _ => .mnxK _ _ _ _ _, fun _ _ => rfl⟩
    | exact ⟨_, .onStr fun _ => .nat fun _ => .bind (.nthB _ _) fun _ => .ret _, fun _ _ => rfl⟩
    | exact ⟨_, .onSl (.ifK (.ret _)) fun _ _ _ _ _ => .opt (.ret _) fun _ => .none, fun _ _ => rfl⟩

theorem kind0_spec {S : Sy} {E : Env} {op : IOp} (hk : op.kind = 0) {t : T} {h : H} {k : K} {r : V × H} (hx : exec S E op t h k = some r) : ∃ v, k v h = some r ∧ ∀ H' k', exec S E op t H' k' = k' v H' := by
  obtain ⟨F, hF, he⟩ := kind0 (S := S) (E := E) hk t
  rcases hF with hn | ⟨v, hv⟩
  · rw [he, hn] at hx; cases hx
  · exact ⟨v, by rw [he, hv] at hx; exact hx, fun H' k' => by rw [he, hv]⟩

/-! ### kind 1: a reading; blocks more do no harm -/
def HLe (h h' : H) : Prop := ∀ b o, h.get b = some o → h'.get b = some o
theorem getK_le {h h' : H} (hle : HLe h h') {b : Pos} {o : O} (ho : h.get b = some o) {k : O → R} : h'.getK b k = k o := by
  have := hle b o ho
  cases h'; simp only [H.getK]; rw [show Tr.getO _ b = some o from this]
theorem kind1_spec {S : Sy} {E : Env} {op : IOp} (hk : op.kind = 1) {t : T} {h : H} {k : K} {r : V × H} (hx : exec S E op t h k = some r) :
    ∃ v, k v h = some r ∧ ∀ H', HLe h H' → ∀ k', exec S E op t H' k' = k' v H' := by
  cases op with
  | ld1 x =>
    obtain ⟨b, i, hp, e⟩ := V.onPtr_some (v := x.ev t) hx
    obtain ⟨ob, hb, e⟩ := H.getK_some e
    rcases Cp.getO ob i with hn | ⟨v, hv⟩
    · rw [show ob.getK i _ = none from hn _] at e; cases e
    · refine ⟨v, (hv _).symm.trans e, fun H' hle k' => ?_⟩
      show (x.ev t).onPtr (fun b i => H'.ld1 b i fun v => k' v H') = _
      rw [hp]
      show H'.getK b (fun o => o.getK i fun v => k' v H') = _
      rw [getK_le hle hb]; exact hv _
  | ldn n x =>
    obtain ⟨b, i, hp, e⟩ := V.onPtr_some (v := x.ev t) hx
    obtain ⟨ob, hb, e⟩ := H.getK_some e
    rcases Cp.getcs ob n i with hn | ⟨v, hv⟩
    · rw [show getcs ob n i _ = none from hn _] at e; cases e
    · refine ⟨.agg v, (hv _).symm.trans e, fun H' hle k' => ?_⟩
      show (x.ev t).onPtr (fun b i => H'.ldn b i n fun vs => k' (.agg vs) H') = _
      rw [hp]
      show H'.getK b (fun o => getcs o n i fun vs => k' (.agg vs) H') = _
      rw [getK_le hle hb]; exact hv _
  | lenm x =>
    rcases V.onMap_some (v := x.ev t) hx with ⟨b, hp, e⟩ | ⟨hne, e⟩
    · obtain ⟨ob, hb, e⟩ := H.getK_some e
      cases ob with
      | mp es =>
        refine ⟨_, e, fun H' hle k' => ?_⟩
        show (x.ev t).onMap _ (fun r => H'.mapK r fun es => k' (.int .i64 (.ofNat (llen es))) H') = _
        rw [hp]
        show H'.getK b _ = _
        rw [getK_le hle hb]
      | _ => cases e
    · obtain ⟨h1, e⟩ := ifK_some.1 e
      have : x.ev t = .nilm := V.isNilm_iff.1 h1
      refine ⟨_, e, fun H' hle k' => ?_⟩
      show (x.ev t).onMap (ifK (x.ev t).isNilm _) _ = _
      rw [this]; rfl
  | lkp ag sh z ok x i =>
    have hx : keyOk ag sh (i.ev t) ((x.ev t).onMap (ifK (x.ev t).isNilm (lkR z ok none fun v => k v h)) fun r => h.mapK r fun es => findK S ag sh (i.ev t) es fun f => lkR z ok f fun v => k v h) = some r := hx
    have hko : ∃ c, ∀ kk : List V → R, keyCells ag (i.ev t) kk = kk c := by
      rcases Cp.keyCells ag (i.ev t) with hn | hv
      · rw [show keyOk ag sh (i.ev t) _ = none from hn _] at hx; cases hx
      · exact hv
    obtain ⟨c, hc⟩ := hko
    have hk' : ∀ kk : R, keyOk ag sh (i.ev t) kk = ifK (Nat.beq (llen c) (llen sh)) kk := fun kk => hc _
    rw [hk'] at hx
    obtain ⟨hb1, hx⟩ := ifK_some.1 hx
    have go : ∀ (f : Option V), (lkR z ok f fun v => k v h) = some r → ∃ v, k v h = some r ∧ ∀ kk : V → R, lkR z ok f kk = kk v := fun f hf => by
      rcases Cp.lkR z ok f with hn | ⟨v, hv⟩
      · rw [show lkR z ok f _ = none from hn _] at hf; cases hf
      · exact ⟨v, (hv _).symm.trans hf, hv⟩
    rcases V.onMap_some (v := x.ev t) hx with ⟨b, hp, e⟩ | ⟨hne, e⟩
    · obtain ⟨ob, hb, e⟩ := H.getK_some e
      cases ob with
      | mp es =>
        have e : (findK S ag sh (i.ev t) es fun f => lkR z ok f fun v => k v h) = some r := e
        rcases Cp.findK S ag sh (i.ev t) es with hn | ⟨f, hf⟩
        · rw [show findK S ag sh (i.ev t) es _ = none from hn _] at e; cases e
        · rw [show findK S ag sh (i.ev t) es _ = _ from hf _] at e
          obtain ⟨v, h1, h2⟩ := go f e
          refine ⟨v, h1, fun H' hle k' => ?_⟩
          show keyOk ag sh (i.ev t) ((x.ev t).onMap _ fun r => H'.mapK r fun es => findK S ag sh (i.ev t) es fun f => lkR z ok f fun v => k' v H') = _
          rw [hk', hb1, hp]
          show H'.getK b _ = _
          rw [getK_le hle hb]
          exact (hf _).trans (h2 _)
      | _ => cases e
    · obtain ⟨h1, e⟩ := ifK_some.1 e
      have hnm : x.ev t = .nilm := V.isNilm_iff.1 h1
      obtain ⟨v, h2, h3⟩ := go none e
      refine ⟨v, h2, fun H' hle k' => ?_⟩
      show keyOk ag sh (i.ev t) ((x.ev t).onMap (ifK (x.ev t).isNilm (lkR z ok none fun v => k' v H')) _) = _
      rw [hk', hb1, hnm]
      exact h3 (fun v => k' v H')
  | _ => cases hk
end Go.Ab

/- Blocks that are made: at whatever place of the abstract memory. -/
namespace Go.Ab
section
variable {P : Program} {cx : Cx} {σ : Nat → Int}

/-- a block that is there in the abstract memory is made in the real one -/
theorem Rel.fill {ι : Inj} {h : H} {w : World} (hr : Rel cx σ ι h w) {b : Pos} {ob : O} {obj : Obj} {sz : Nat} (hb : ι b = none) (hlt : b.toNat < h.nx.toNat) (ho : h.get b = some ob)
    (hn : ORel cx σ ι (w.alloc obj) ⟨w.heap.size, 0, sz⟩ ob) : Rel cx σ (ι.add b ⟨w.heap.size, 0, sz⟩) h (w.alloc obj) := by
  have hle : Le ι (ι.add b ⟨w.heap.size, 0, sz⟩) := Inj.add_le hb
  have hsz : (w.alloc obj).heap.size = w.heap.size + 1 := by show (w.heap.push obj).size = _; simp
  have hold : ∀ B, B < w.heap.size → (w.alloc obj).heap[B]? = w.heap[B]? := fun B hB => by show (w.heap.push obj)[B]? = _; simp [Array.getElem?_push, Nat.ne_of_lt hB]
  refine ⟨fun x lx hx => ?_, fun x y lx ly hx hy e hdx hdy => ?_, fun x lx ox hx hox => ?_⟩
  · rw [hsz]
    by_cases e : x = b
    · subst e; rw [Inj.add_same] at hx; cases hx; exact ⟨hlt, by simp⟩
    · rw [Inj.add_ne _ _ _ _ e] at hx; have := hr.bound x lx hx; omega
  · by_cases ex : x = b
    · by_cases ey : y = b
      · rw [ex, ey]
      · subst ex; rw [Inj.add_same] at hx; cases hx; rw [Inj.add_ne _ _ _ _ ey] at hy; have := (hr.bound y ly hy).2; simp at e; omega
    · rw [Inj.add_ne _ _ _ _ ex] at hx
      by_cases ey : y = b
      · subst ey; rw [Inj.add_same] at hy; cases hy; have := (hr.bound x lx hx).2; simp at e; omega
      · rw [Inj.add_ne _ _ _ _ ey] at hy
        exact hr.inj x y lx ly hx hy e hdx hdy
  · by_cases e : x = b
    · subst e; rw [Inj.add_same] at hx; cases hx; rw [ho] at hox; cases hox; exact hn.mono hle
    · rw [Inj.add_ne _ _ _ _ e] at hx
      exact ((hr.obj x lx ox hx hox).other fun y hy => by rw [hold _ (hr.bound x lx hx).2]; exact hy).mono hle

theorem Ext.fill {ι0 ι : Inj} {h0 h : H} {w0 w : World} (he : Ext ι0 ι h0 h w0 w) {b : Pos} {obj : Obj} {sz : Nat} (hb : ι b = none) (hge : h0.nx.toNat ≤ b.toNat) :
    Ext ι0 (ι.add b ⟨w.heap.size, 0, sz⟩) h0 h w0 (w.alloc obj) := by
  have hsz : (w.alloc obj).heap.size = w.heap.size + 1 := by show (w.heap.push obj).size = _; simp
  have hlt : ∀ {B o}, w.heap[B]? = some o → B < w.heap.size := fun {B o} e => by
    rcases Nat.lt_or_ge B w.heap.size with h | h
    · exact h
    · rw [Array.getElem?_eq_none h] at e; cases e
  have hold : ∀ B, B < w.heap.size → (w.alloc obj).heap[B]? = w.heap[B]? := fun B hB => by show (w.heap.push obj)[B]? = _; simp [Array.getElem?_push, Nat.ne_of_lt hB]
  refine ⟨he.le.trans (Inj.add_le hb), fun x l e n => ?_, he.keepA, he.nx, fun B o e hn => ?_, ?_, fun x l e n => ?_, he.os, he.out, he.tape⟩
  · by_cases ex : x = b
    · rw [ex]; exact hge
    · rw [Inj.add_ne _ _ _ _ ex] at e; exact he.fresh x l e n
  · have := he.keepW B o e hn
    rw [hold B (hlt this)]; exact this
  · rw [hsz]; have := he.size; omega
  · by_cases ex : x = b
    · rw [ex, Inj.add_same] at e; cases e; exact .inl he.size
    · rw [Inj.add_ne _ _ _ _ ex] at e; exact he.rng x l e n

/-- the abstract memory has a block more -/
theorem Rel.more {ι : Inj} {h : H} {w : World} (hr : Rel cx σ ι h w) (ob : O) : Rel cx σ ι (h.push ob) w := by
  have hne : ∀ x l, ι x = some l → x ≠ h.nx := fun x l hx e => by have := (hr.bound x l hx).1; rw [e] at this; omega
  refine ⟨fun x lx hx => ?_, fun x y lx ly hx hy e hdx hdy => ?_, fun x lx ox hx hox => ?_⟩
  · rw [H.nx_push, Pos.toNat_succ]; have := hr.bound x lx hx; omega
  · rw [H.get_push_ne _ _ _ (hne x lx hx)] at hdx
    rw [H.get_push_ne _ _ _ (hne y ly hy)] at hdy
    exact hr.inj x y lx ly hx hy e hdx hdy
  · rw [H.get_push_ne _ _ _ (hne x lx hx)] at hox
    exact hr.obj x lx ox hx hox
theorem Ext.more {ι0 ι : Inj} {h0 h : H} {w0 w : World} (he : Ext ι0 ι h0 h w0 w) (ob : O) : Ext ι0 ι h0 (h.push ob) w0 w := by
  refine ⟨he.le, he.fresh, fun x hlt hn => ?_, ?_, he.keepW, he.size, he.rng, he.os, he.out, he.tape⟩
  · rw [H.get_push_ne _ _ _ (fun e => by have := he.nx; rw [e] at hlt; omega)]; exact he.keepA x hlt hn
  · rw [H.nx_push, Pos.toNat_succ]; have := he.nx; omega

/-- what a making comes to, wherever it is made -/
def AOSim (cx : Cx) (σ : Nat → Int) (P : Program) (o : Oper) (t : T) (ob : O) (val : Pos → V) : Prop :=
  ∀ (ι : Inj) (w : World) (ρ : Operand → Value), Opds σ ι t ρ → ∃ (v' : Value) (obj : Obj) (sz : Nat), (execOp ρ o).run P w = .ok (.value v') (w.alloc obj) ∧
    ORel cx σ ι (w.alloc obj) ⟨w.heap.size, 0, sz⟩ ob ∧ ∀ (ι' : Inj) (b : Pos), ι' b = some ⟨w.heap.size, 0, sz⟩ → VR σ ι' (val b) v'
def Makes (cx : Cx) (σ : Nat → Int) (P : Program) (o : Oper) (x : T → H → K → R) : Prop :=
  ∀ (t : T) (h : H) (k : K) (r : V × H), x t h k = some r → ∃ ob val, k (val h.nx) (h.push ob) = some r ∧ AOSim cx σ P o t ob val

theorem m_new (hy : Hyp P cx) {o : Oper} {e : TypeId} {zs : List V} (ho : o.op = .alloc e) (hz : zerosOf cx e = some zs) : Makes cx σ P o (x_new zs) := by
  intro t h k r e0
  have e1 : k (.ptr h.nx 0) (h.push (mkO zs)) = some r := by rw [← e0]; exact (H.alloc_eq h (mkO zs) (fun r h' => k (.ptr r 0) h')).symm
  refine ⟨mkO zs, fun b => .ptr b 0, e1, fun ι w ρ hρ => ?_⟩
  obtain ⟨z, hz1, hz2⟩ := zerosOf_spec (σ := σ) hy hz w
  obtain ⟨a, b, c, d⟩ := mkO_spec zs
  have hor := orel_new (cx := cx) w e a b c d (hz2 ι).1 (hz2 ι).2 (c := z.cells) (by simp) (by simp)
  refine ⟨.pointer (some ⟨w.heap.size, 0, none⟩), .cells z.cells e, _, ?_, hor, fun ι' b hb => ⟨_, hb, rfl⟩⟩
  simp [execOp, ho, Instr.alloc, hz1, newVar, newRow]

theorem m_box {o : Oper} {ty : TypeId} {x : Operand} {y : Opd} (ho : o.op = .box ty x) (hx : ofOpd x = some y) : Makes cx σ P o (x_box y) := by
  intro t h k r e0
  obtain ⟨hb, e0⟩ := ifK_some.1 e0
  have e1 : k (.ptr h.nx 0) (h.push (mkO (y.ev t).cells)) = some r := by rw [← e0]; exact (H.alloc_eq h _ (fun r h' => k (.ptr r 0) h')).symm
  refine ⟨mkO (y.ev t).cells, fun b => .ptr b 0, e1, fun ι w ρ hρ => ?_⟩
  have h1 := hρ x y hx
  obtain ⟨a, b, c, d⟩ := mkO_spec (y.ev t).cells
  have hor := orel_new (cx := cx) w ty a b c d (cells_of_one h1) (bx_one h1 hb) (c := (ρ x).cells) (by simp) (by simp)
  refine ⟨.pointer (some ⟨w.heap.size, 0, none⟩), .cells (ρ x).cells ty, _, ?_, hor, fun ι' b hb => ⟨_, hb, rfl⟩⟩
  simp [execOp, ho, Instr.box, newVar, newRow]

theorem m_mkmap {o : Oper} {ty : TypeId} (ho : o.op = .makeMap ty none) : Makes cx σ P o x_mkmap := by
  intro t h k r e0
  have e1 : k (.map h.nx) (h.push (.mp [])) = some r := by rw [← e0]; exact (H.alloc_eq h _ (fun r h' => k (.map r) h')).symm
  refine ⟨.mp [], fun b => .map b, e1, fun ι w ρ hρ => ?_⟩
  refine ⟨.map (some w.heap.size), .map #[] 0, 0, ?_, ⟨#[], 0, by show (w.heap.push _)[w.heap.size]? = _; simp, rfl, rfl⟩, fun ι' b hb => ⟨_, hb, rfl⟩⟩
  simp [execOp, ho, Instr.makeMap]

theorem m_bslice (hy : Hyp P cx) {o : Oper} {ty e : TypeId} {n : Nat} {parts : Array (Nat × Operand)} {esz : Nat} {ps : List (Nat × Nat × Opd)} {zs : List V} (ho : o.op = .buildSlice ty n parts) (hz : zerosOf cx e = some zs)
    (hu : und cx ty = some (.slice e)) (hs : szOf cx e = some esz) (hzl : zs.length = esz) (hsm : n * esz ≤ 16777216) (h0 : esz ≠ 0) (hps : partsAt (fun i => some (i * esz, esz)) parts.toList = some ps) : Makes cx σ P o (x_bslice n (repl zs n) ps) := by
  intro t h k r e0
  obtain ⟨l', e0, hl⟩ := fill_sim (σ := σ) hps e0
  have e1 : k (.sl h.nx 0 n n none) (h.push (mkO l')) = some r := by rw [← e0]; exact (H.alloc_eq h _ (fun r h' => k (.sl r 0 n n none) h')).symm
  refine ⟨mkO l', fun b => .sl b 0 n n none, e1, fun ι w ρ hρ => ?_⟩
  obtain ⟨i, z, hi, hz0, hzz⟩ := zeros_info (σ := σ) hy hz
  obtain ⟨i', hi', hsz⟩ := info_of hy hs
  rw [hi] at hi'; cases hi'
  have hrs := repl_sim (hzz ι).1 n (by omega)
  obtain ⟨c', h1, h2, h3⟩ := hl ι ρ ((Array.range (n * zs.length)).map (z.cells[· % z.cells.size]!)) hρ hrs (fun v hv => (hzz ι).2 v (repl_mem hv))
  obtain ⟨o1, o2, o3, o4⟩ := mkO_spec l'
  have hor := orel_new (cx := cx) w e o1 o2 o3 o4 h2 h3 (c := c') (by simp) (by simp)
  refine ⟨.slice (some ⟨w.heap.size, 0, none⟩) n n, .cells c' e, _, ?_, hor, fun ι' b hb => VR.sl_mk hb rfl (Nat.le_refl _) (fun _ => rfl) (fun _ h => by cases h)⟩
  have hmap : (parts.map fun (i, x) => (i, ρ x)).toList = parts.toList.map fun p => (p.1, ρ p.2) := by simp
  by_cases hn : n = 0
  · subst hn
    have hc' : Instr.fill (fun i => some (i * esz, esz)) #[] (parts.toList.map fun p => (p.1, ρ p.2)) = some c' := by
      rw [← h1, Nat.zero_mul, range0]
    simp [execOp, ho, Instr.buildSlice, run_underlying (und_spec hy hu), szOf_spec hy hs, hc', newRow, range0]
  · have hne : ¬ n * esz = 0 := fun hh => by rcases Nat.mul_eq_zero.1 hh with h | h; exact hn h; exact h0 h
    have hsm' : ¬ n * esz > 2 ^ 24 := by omega
    have hz1 : ∀ w : World, (zeroValue e).run P w = .ok z w := fun w => by simp [zeroValue, run_typeInfo w hi, hz0]
    rw [hzl] at h1
    have run0 : (Instr.buildSlice ty n (parts.map fun (i, x) => (i, ρ x))).run P w = .ok (.slice (some ⟨w.heap.size, 0, none⟩) n n) (w.alloc (.cells c' e)) := by
      unfold Instr.buildSlice
      simp only [Sem.run_bind, run_underlying (und_spec hy hu), Result.andThen_ok, szOf_spec hy hs, if_neg hsm', if_neg hne, hz1, Sem.run_pure, hmap, h1, newRow, run_newObj]
      rfl
    simp only [execOp, ho, Sem.run_bind, run0, Result.andThen_ok, Sem.run_pure]

theorem m_mkslice (hy : Hyp P cx) {o : Oper} {ty e : TypeId} {l c : Operand} {l' c' : Opd} {esz bytes : Nat} {zs : List V} (ho : o.op = .makeSlice ty l c) (hl : ofOpd l = some l') (hc : ofOpd c = some c') (hz : zerosOf cx e = some zs)
    (hu : und cx ty = some (.slice e)) (hs : szOf cx e = some esz) (hb : byOf cx e = some bytes) (hzl : zs.length = esz) (h0 : esz ≠ 0) : Makes cx σ P o (x_mkslice esz zs bytes l' c') := by
  intro t h k r e0
  obtain ⟨j, n, hn, e0⟩ := V.nat_some e0
  obtain ⟨j', m, hm, e0⟩ := V.nat_some e0
  obtain ⟨h1, e0⟩ := ifK_some.1 e0
  obtain ⟨h2, e0⟩ := ifK_some.1 e0
  obtain ⟨h3, e0⟩ := ifK_some.1 e0
  rw [Nat.ble_eq] at h1 h2 h3
  have e1 : k (.sl h.nx 0 n m none) (h.push (.big (Nat.mul m esz) esz zs .nil)) = some r := by rw [← e0]; exact (H.alloc_eq h _ (fun r h' => k (.sl r 0 n m none) h')).symm
  refine ⟨.big (Nat.mul m esz) esz zs .nil, fun b => .sl b 0 n m none, e1, fun ι w ρ hρ => ?_⟩
  have hN := nat_of hn (hρ l l' hl)
  have hM := nat_of hm (hρ c c' hc)
  obtain ⟨i, z, hi, hz0, hzz⟩ := zeros_info (σ := σ) hy hz
  obtain ⟨ib, hib, hbytes⟩ := byOf_spec hy hb w
  have hzsz : z.cells.size = zs.length := by have := (hzz ι).1.length; simpa using this
  let cs : Array Value := (Array.range (m * esz)).map (z.cells[· % z.cells.size]!)
  have hor : ORel cx σ ι (w.alloc (.cells cs e)) ⟨w.heap.size, 0, m * esz⟩ (.big (Nat.mul m esz) esz zs .nil) := by
    refine ⟨cs, e, (0, 0), by show (w.heap.push _)[w.heap.size]? = _; simp, Nat.le_refl _, by simp [cs], fun i _ => by simp, fun q v hv => ?_⟩
    simp only [O.at] at hv
    by_cases hq : q < Nat.mul m esz
    · rw [if_pos hq, Tr.get_nil] at hv
      have hv : zs[q % esz]? = some v := hv
      obtain ⟨x, hx1, hx2⟩ := (hzz ι).1.get hv
      have hmod : q % z.cells.size < z.cells.size := Nat.mod_lt _ (by omega)
      refine ⟨x, ?_, hx2, (hzz ι).2 v (List.mem_of_getElem? hv)⟩
      show cs[0 + q]? = _
      rw [Nat.zero_add, show cs[q]? = _ from range_map_get z.cells _ q hq hmod, hzsz, hzl]
      simpa using hx1
    · rw [if_neg hq] at hv; cases hv
  refine ⟨.slice (some ⟨w.heap.size, 0, none⟩) n m, .cells cs e, _, ?_, hor, fun ι' b hb => VR.sl_mk hb rfl (Nat.le_refl _) (fun _ => rfl) (fun _ h => by cases h)⟩
  have hwn : IntKind.i64.wrap (n : Int) = n := wrap_i64 (by omega) (by omega)
  have hwm : IntKind.i64.wrap (m : Int) = m := wrap_i64 (by omega) (by omega)
  have hbm : (bytes : Int) * (m : Int) ≤ 1099511627776 := by
    have : bytes * m ≤ 1099511627776 := by rw [Nat.mul_comm]; exact h2
    have hq := Int.ofNat_le.2 this
    rw [Int.natCast_mul] at hq
    omega
  have hz1 : ∀ w : World, (zeroValue e).run P w = .ok z w := fun w => by simp [zeroValue, run_typeInfo w hi, hz0]
  have hti : (typeInfo e).run P w = .ok i w := run_typeInfo w hi
  rw [hti] at hib
  have hib' : i = ib := by injection hib
  rw [← hib'] at hbytes
  have hp48 : (2 : Int) ^ 48 = 281474976710656 := rfl
  have htl : (decide ((m : Int) < 0) || decide ((bytes : Int) * m > 2 ^ 48)) = false := by
    rw [Bool.or_eq_false_iff]; exact ⟨decide_eq_false (by omega), decide_eq_false (by omega)⟩
  have hnm : ¬ ((n : Int) > m) := by omega
  have run0 : (Instr.makeSlice ty (.int j n) (.int j' m)).run P w = .ok (.slice (some ⟨w.heap.size, 0, none⟩) n m) (w.alloc (.cells cs e)) := by
    have hl0 : ¬ ((n : Int) < 0) := by omega
    have t2 : (decide ((n : Int) < 0) || decide ((n : Int) > m)) = false := by rw [Bool.or_eq_false_iff]; exact ⟨decide_eq_false (by omega), decide_eq_false (by omega)⟩
    have tt : ((decide ((m : Int) < 0) || decide ((bytes : Int) * m > 2 ^ 48) || decide ((n : Int) < 0) || decide ((n : Int) > m)) = true) = False := by
      rw [Bool.or_assoc, htl, Bool.false_or, t2]; exact eq_false (by decide)
    unfold Instr.makeSlice
    simp only [Sem.run_bind, run_underlying (und_spec hy hu), asInt, asIntOf, hti, hbytes, Result.andThen_ok, Sem.run_pure, hwn, hwm, tt, if_false, run_askRoom, szOf_spec hy hs, Int.toNat_natCast]
    by_cases hme : m * esz = 0
    · have hcs : cs = #[] := by simp only [cs, hme]; exact range0 _
      simp only [hme, if_true, Sem.run_pure, Result.andThen_ok, newRow, Sem.run_bind, run_newObj, range0, hcs]
      rfl
    · simp only [if_neg hme, Sem.run_bind, hz1, Result.andThen_ok, Sem.run_pure, newRow, run_newObj]
      rfl
  simp [execOp, ho, hN, hM, run0]

theorem comp_makes (hy : Hyp P cx) {o : Oper} {iop : IOp} (hm : isMk o.op = true) (hc : compOp cx o.op = some iop) (S : Sy) (E : Env) : Makes cx σ P o (exec S E iop) := by
  cases ho : o.op with
  | alloc e =>
    rw [ho] at hc; simp [compOp, Option.bind_eq_some_iff] at hc
    obtain ⟨z, h1, rfl⟩ := hc
    exact m_new hy ho h1
  | box t x =>
    rw [ho] at hc; simp [compOp, Option.bind_eq_some_iff] at hc
    obtain ⟨y, h1, rfl⟩ := hc
    exact m_box ho h1
  | buildSlice t n ps =>
    rw [ho] at hc; simp [compOp, Option.bind_eq_some_iff] at hc
    obtain ⟨d, h1, hc⟩ := hc
    cases d <;> simp [Option.bind_eq_some_iff] at hc
    obtain ⟨s, h2, z, h3, ⟨⟨h4, h5⟩, h6⟩, q, h7, rfl⟩ := hc
    exact m_bslice hy ho h3 h1 h2 h4 h5 h6 h7
  | makeMap t r =>
    rw [ho] at hc
    cases r <;> simp [compOp] at hc
    subst hc
    exact m_mkmap ho
  | makeSlice t l c =>
    rw [ho] at hc; simp [compOp, Option.bind_eq_some_iff] at hc
    obtain ⟨d, h1, hc⟩ := hc
    cases d <;> simp [Option.bind_eq_some_iff] at hc
    obtain ⟨s, h2, z, h3, ⟨h4, h5⟩, by_, h6, l', h7, c', h8, rfl⟩ := hc
    exact m_mkslice hy ho h7 h8 h3 h1 h2 h6 h4 h5
  | _ => rw [ho] at hm; cases hm
end
end Go.Ab

/- A run hands on one thing at most, and the same one whatever comes behind. -/
namespace Go.Ab

section gen
variable {κ : Type} {P : (κ → R) → Prop}
theorem Gn.ifK (hn : P fun _ => none) {b : Bool} {F : κ → R} (h : P F) : P (fun k => Ab.ifK b (F k)) := by cases b; exact hn; exact h
theorem Gn.onPtr (hn : P fun _ => none) {v : V} {G : Pos → Nat → κ → R} (h : ∀ b o, P (G b o)) : P (fun k => v.onPtr fun b o => G b o k) := by cases v <;> first | exact h _ _ | exact hn
theorem Gn.onBool (hn : P fun _ => none) {v : V} {G : Bool → κ → R} (h : ∀ b, P (G b)) : P (fun k => v.onBool fun b => G b k) := by cases v <;> first | exact h _ | exact hn
theorem Gn.onAgg (hn : P fun _ => none) {v : V} {G : List V → κ → R} (h : ∀ b, P (G b)) : P (fun k => v.onAgg fun b => G b k) := by cases v <;> first | exact h _ | exact hn
theorem Gn.onSl {v : V} {D : κ → R} {G : Pos → Nat → Nat → Nat → Option Nat → κ → R} (hD : P D) (h : ∀ a b c d e, P (G a b c d e)) : P (fun k => v.onSl (D k) fun a b c d e => G a b c d e k) := by cases v <;> first | exact h _ _ _ _ _ | exact hD
theorem Gn.onMap {v : V} {D : κ → R} {G : Pos → κ → R} (hD : P D) (h : ∀ a, P (G a)) : P (fun k => v.onMap (D k) fun a => G a k) := by cases v <;> first | exact h _ | exact hD
theorem Gn.nat (hn : P fun _ => none) {v : V} {G : Nat → κ → R} (h : ∀ n, P (G n)) : P (fun k => v.nat fun n => G n k) := by
  cases v with
  | int j n => cases n; exact h _; exact hn
  | _ => exact hn
theorem Gn.bool {b : Bool} {F G : κ → R} (hF : P F) (hG : P G) : P (fun k => Bool.rec (motive := fun _ => R) (F k) (G k) b) := by cases b; exact hF; exact hG
theorem Gn.opt {α : Type} {o : Option α} {D : κ → R} {G : α → κ → R} (hD : P D) (h : ∀ a, P (G a)) : P (fun k => Option.rec (motive := fun _ => R) (D k) (fun a => G a k) o) := by cases o; exact hD; exact h _
/-- behind a word that hands on one thing at most -/
theorem Gn.bind (hn : P fun _ => none) {β : Type} {F : (β → R) → R} (hF : Cp F) {G : β → κ → R} (hG : ∀ a, P (G a)) : P (fun k => F (fun a => G a k)) := by
  rcases hF with h | ⟨v, h⟩
  · have : (fun k => F (fun a => G a k)) = fun _ => none := funext fun k => h _
    rw [this]; exact hn
  · have : (fun k => F (fun a => G a k)) = G v := funext fun k => h _
    rw [this]; exact hG v
end gen

def CpK (F : K → R) : Prop := (∀ k, F k = none) ∨ ∃ v h, ∀ k, F k = k v h
theorem CpK.no : CpK (fun _ => none) := .inl fun _ => rfl
theorem CpK.ret (v : V) (h : H) : CpK (fun k => k v h) := .inr ⟨v, h, fun _ => rfl⟩
def CpT (F : (T → H → R) → R) : Prop := (∀ k, F k = none) ∨ ∃ t h, ∀ k, F k = k t h
theorem CpT.no : CpT (fun _ => none) := .inl fun _ => rfl
theorem CpT.ret (t : T) (h : H) : CpT (fun k => k t h) := .inr ⟨t, h, fun _ => rfl⟩
def CpE (F : (T → H → R) × (Option Nat → T → H → R) → R) : Prop := (∀ k, F k = none) ∨ (∃ t h, ∀ k, F k = k.1 t h) ∨ ∃ e t h, ∀ k, F k = k.2 e t h
theorem CpE.no : CpE (fun _ => none) := .inl fun _ => rfl
theorem CpE.ret (t : T) (h : H) : CpE (fun k => k.1 t h) := .inr (.inl ⟨t, h, fun _ => rfl⟩)
theorem CpE.out (e : Option Nat) (t : T) (h : H) : CpE (fun k => k.2 e t h) := .inr (.inr ⟨e, t, h, fun _ => rfl⟩)

theorem Gn.bindK {κ : Type} {P : (κ → R) → Prop} (hn : P fun _ => none) {F : K → R} (hF : CpK F) {G : V → H → κ → R} (hG : ∀ v h, P (G v h)) : P (fun k => F (fun v h => G v h k)) := by
  rcases hF with h | ⟨v, h', h⟩
  · have : (fun k => F (fun v h => G v h k)) = fun _ => none := funext fun k => h _
    rw [this]; exact hn
  · have : (fun k => F (fun v h => G v h k)) = G v h' := funext fun k => h _
    rw [this]; exact hG v h'
theorem Gn.bindT {κ : Type} {P : (κ → R) → Prop} (hn : P fun _ => none) {F : (T → H → R) → R} (hF : CpT F) {G : T → H → κ → R} (hG : ∀ v h, P (G v h)) : P (fun k => F (fun v h => G v h k)) := by
  rcases hF with h | ⟨v, h', h⟩
  · have : (fun k => F (fun v h => G v h k)) = fun _ => none := funext fun k => h _
    rw [this]; exact hn
  · have : (fun k => F (fun v h => G v h k)) = G v h' := funext fun k => h _
    rw [this]; exact hG v h'
theorem Gn.bindE {κ : Type} {P : (κ → R) → Prop} (hn : P fun _ => none) {F : (T → H → R) → (Option Nat → T → H → R) → R} (hF : CpE fun k => F k.1 k.2) {G : T → H → κ → R} {G' : Option Nat → T → H → κ → R}
    (hG : ∀ v h, P (G v h)) (hG' : ∀ e v h, P (G' e v h)) : P (fun k => F (fun v h => G v h k) (fun e v h => G' e v h k)) := by
  rcases hF with h | ⟨v, h', h⟩ | ⟨e, v, h', h⟩
  · have : (fun k => F (fun v h => G v h k) (fun e v h => G' e v h k)) = fun _ => none := funext fun k => h (_, _)
    rw [this]; exact hn
  · have : (fun k => F (fun v h => G v h k) (fun e v h => G' e v h k)) = G v h' := funext fun k => h (_, _)
    rw [this]; exact hG v h'
  · have : (fun k => F (fun v h => G v h k) (fun e v h => G' e v h k)) = G' e v h' := funext fun k => h (_, _)
    rw [this]; exact hG' e v h'

theorem Cp.setO (o : O) (i : Nat) (v : V) : Cp (fun k => o.setK i v k) := by
  cases o with
  | lst l => exact .ifK (.ifK (.ret _))
  | big n m zs t =>
    have e : (fun k => Tr.putVK (Pos.of i) v t fun t => k (O.big n m zs t)) = fun k : O → R => k (.big n m zs (Tr.putV (Pos.of i) v t)) := funext fun k => Tr.putVK_eq _ _ _ _
    have e2 : Cp (fun k => Tr.putVK (Pos.of i) v t fun t => k (O.big n m zs t)) := by
      rw [e]; exact .ret _
    exact .ifK (.ifK e2)
  | _ => exact .ifK .none
theorem Cp.setcs (vs : List V) : ∀ o i, Cp (fun k => Ab.setcs vs o i k) := by
  induction vs with
  | nil => intro o i; exact .ret o
  | cons v vs ih => intro o i; exact Cp.bind (F := fun k => o.setK i v k) (G := fun o' k => Ab.setcs vs o' (Nat.succ i) k) (.setO o i v) fun o' => ih _ _
theorem Cp.stn (h : H) (b : Pos) (i : Nat) (vs : List V) : Cp (fun k => h.stn b i vs k) :=
  Cp.bind (F := fun k => h.getK b k) (G := fun o k => Ab.setcs vs o i fun o' => k (h.put b o')) (.getH h b) fun o => Cp.bind (F := fun k => Ab.setcs vs o i k) (G := fun o' k => k (h.put b o')) (.setcs vs o i) fun o' => .ret _
theorem Cp.st1 (h : H) (b : Pos) (i : Nat) (v : V) : Cp (fun k => h.st1 b i v k) :=
  Cp.bind (F := fun k => h.getK b k) (G := fun o k => o.setK i v fun o' => k (h.put b o')) (.getH h b) fun o => Cp.bind (F := fun k => o.setK i v k) (G := fun o' k => k (h.put b o')) (.setO o i v) fun o' => .ret _
theorem Cp.ldn (h : H) (b : Pos) (i n : Nat) : Cp (fun k => h.ldn b i n k) :=
  Cp.bind (F := fun k => h.getK b k) (G := fun o k => Ab.getcs o n i k) (.getH h b) fun o => .getcs o n i
theorem Cp.ld1 (h : H) (b : Pos) (i : Nat) : Cp (fun k => h.ld1 b i k) :=
  Cp.bind (F := fun k => h.getK b k) (G := fun o k => o.getK i k) (.getH h b) fun o => .getO o i
theorem Cp.mapK (h : H) (b : Pos) : Cp (fun k => h.mapK b k) :=
  Cp.bind (F := fun k => h.getK b k) (G := fun o k => O.rec (motive := fun _ => R) (fun _ => Option.none) (fun _ _ _ _ => Option.none) k (fun _ _ _ _ _ => Option.none) Option.none (fun _ => Option.none) o) (.getH h b)
    fun o => by cases o <;> first | exact .ret _ | exact .none
theorem Cp.iterK (h : H) (b : Pos) : Cp (fun k => h.iterK b k) :=
  Cp.bind (F := fun k => h.getK b k) (G := fun o k => O.rec (motive := fun _ => R) (fun _ => Option.none) (fun _ _ _ _ => Option.none) (fun _ => Option.none) (fun _ _ _ _ _ => Option.none) Option.none k o) (.getH h b)
    fun o => by cases o <;> first | exact .ret _ | exact .none
theorem Cp.setKK (S : Sy) (ag : Bool) (sh : List Bool) (key v : V) (es : List (V × V)) : Cp (fun k => Ab.setKK S ag sh key v es k) := by
  induction es with
  | nil => exact .ret _
  | cons e es ih => exact Cp.bind (F := fun k => Ab.keyEq S ag sh key e.1 k) (G := fun b k => Bool.rec (motive := fun _ => R) (Ab.setKK S ag sh key v es fun l => k (e :: l)) (k ((key, v) :: es)) b) (.keyEq S ag sh key e.1) fun b => .bool (Cp.bind (F := fun k => Ab.setKK S ag sh key v es k) (G := fun l k => k (e :: l)) ih fun l => .ret _) (.ret _)
theorem Cp.delKK (S : Sy) (ag : Bool) (sh : List Bool) (key : V) (es : List (V × V)) : Cp (fun k => Ab.delKK S ag sh key es k) := by
  induction es with
  | nil => exact .ret _
  | cons e es ih => exact Cp.bind (F := fun k => Ab.keyEq S ag sh key e.1 k) (G := fun b k => Bool.rec (motive := fun _ => R) (Ab.delKK S ag sh key es fun l => k (e :: l)) (k es) b) (.keyEq S ag sh key e.1) fun b => .bool (Cp.bind (F := fun k => Ab.delKK S ag sh key es k) (G := fun l k => k (e :: l)) ih fun l => .ret _) (.ret _)
theorem Cp.elems (h : H) (esz : Nat) (s : V) (n : Nat) : Cp (fun k => h.elems esz s n k) := .onSl (.ifK (.ifK (.ret _))) fun b o _ _ _ => .ifK (.ldn h b o _)
theorem Cp.alloc {β : Type} {h : H} {o : O} {G : Pos → H → (β → R) → R} (hG : ∀ b h, Cp (G b h)) : Cp (fun k => h.alloc o fun b h => G b h k) := by
  have : (fun k => h.alloc o fun b h => G b h k) = G h.nx (h.push o) := funext fun k => H.alloc_eq h o _
  rw [this]; exact hG _ _
theorem Gn.alloc {κ : Type} {P : (κ → R) → Prop} {h : H} {o : O} {G : Pos → H → κ → R} (hG : ∀ b h, P (G b h)) : P (fun k => h.alloc o fun b h => G b h k) := by
  have : (fun k => h.alloc o fun b h => G b h k) = G h.nx (h.push o) := funext fun k => H.alloc_eq h o _
  rw [this]; exact hG _ _

theorem doApp_nat (h : H) (esz : Nat) (s : V) (new : List V) (n : Nat) : CpK (doApp h esz s new n) := by
  refine Gn.onSl (P := CpK) (Gn.ifK CpK.no ?_) fun b o len cap fx => Gn.bool (P := CpK) ?_ ?_
  · cases n with
    | zero => exact .ret _ _
    | succ n => exact Gn.alloc (P := CpK) fun _ _ => .ret _ _
  · refine Gn.bind (P := CpK) CpK.no (F := fun k => h.ldn b o (Nat.mul len esz) k) (.ldn h b o _) fun old => Gn.opt (P := CpK) ?_ fun e => Gn.ifK CpK.no (Gn.bind (P := CpK) CpK.no (F := fun k => h.getK b k) (.getH h b) fun ob => Gn.ifK CpK.no ?_)
    · exact Gn.alloc (P := CpK) fun _ _ => .ret _ _
    · exact Gn.alloc (P := CpK) fun _ _ => .ret _ _
  · exact Gn.bind (P := CpK) CpK.no (F := fun k => h.stn b _ new k) (.stn h b _ new) fun h' => .ret _ _

structure EnvNat (call : Nat → List V → H → K → R) (round : Pos → List V → H → K → R) (loop : IC → T → H → (T → H → R) → (Option Nat → T → H → R) → R) : Prop where
  call : ∀ f args h, CpK (call f args h)
  round : ∀ l args h, CpK (round l args h)
  loop : ∀ b t h, CpE fun k => loop b t h k.1 k.2

section
variable {call : Nat → List V → H → K → R} {round : Pos → List V → H → K → R} {loop : IC → T → H → (T → H → R) → (Option Nat → T → H → R) → R} {S : Sy}

theorem callV_nat (hE : EnvNat call round loop) (f : V) (args : List V) (h : H) : CpK (Env.callV (.mk call round loop) f args h) := by
  cases f with
  | fn f a b => exact hE.call _ _ _
  | yield l => exact hE.round _ _ _
  | _ => exact CpK.no

theorem callFn_nat (hE : EnvNat call round loop) (f : V) (args : List V) (h : H) : CpK (Env.callFn (.mk call round loop) f args h) := by
  cases f with
  | fn f a b => exact hE.call _ _ _
  | _ => exact CpK.no

theorem exec_nat (hE : EnvNat call round loop) (op : IOp) (t : T) (h : H) : CpK (exec S (.mk call round loop) op t h) := by
  by_cases h0 : op.kind = 0
  · obtain ⟨F, hF, he⟩ := kind0 (S := S) (E := .mk call round loop) h0 t
    have : exec S (.mk call round loop) op t h = fun k => F fun v => k v h := funext fun k => he h k
    rw [this]
    exact Gn.bind (P := CpK) CpK.no hF fun v => .ret v h
  · cases op with
    | ld1 x => exact Gn.onPtr CpK.no fun b i => Gn.bind (P := CpK) CpK.no (F := fun k => h.ld1 b i k) (.ld1 h b i) fun v => .ret _ _
    | ldn n x => exact Gn.onPtr CpK.no fun b i => Gn.bind (P := CpK) CpK.no (F := fun k => h.ldn b i n k) (.ldn h b i n) fun v => .ret _ _
    | lenm x => exact Gn.onMap (P := CpK) (Gn.ifK CpK.no (.ret _ _)) fun r => Gn.bind (P := CpK) CpK.no (F := fun k => h.mapK r k) (.mapK h r) fun es => .ret _ _
    | lkp ag sh z ok x i =>
      change CpK fun k => keyCells ag (i.ev t) fun c => ifK (Nat.beq (llen c) (llen sh)) ((x.ev t).onMap (ifK (x.ev t).isNilm (lkR z ok none fun v => k v h)) fun r => h.mapK r fun es => findK S ag sh (i.ev t) es fun f => lkR z ok f fun v => k v h)
      refine Gn.bind (P := CpK) CpK.no (F := fun k => keyCells ag (i.ev t) k) (.keyCells _ _) fun c => Gn.ifK CpK.no (Gn.onMap (P := CpK) (Gn.ifK CpK.no ?_) fun r => ?_)
      · exact Gn.bind (P := CpK) CpK.no (F := fun k => lkR z ok none k) (.lkR _ _ _) fun v => .ret _ _
      · exact Gn.bind (P := CpK) CpK.no (F := fun k => h.mapK r k) (.mapK h r) fun es => Gn.bind (P := CpK) CpK.no (F := fun k => findK S ag sh (i.ev t) es k) (.findK _ _ _ _ _) fun f => Gn.bind (P := CpK) CpK.no (F := fun k => lkR z ok f k) (.lkR _ _ _) fun v => .ret _ _
    | new zs => exact Gn.alloc (P := CpK) (h := h) (o := mkO zs) (G := fun r h' k => k (.ptr r 0) h') fun _ _ => .ret _ _
    | box x => exact Gn.ifK CpK.no (Gn.alloc (P := CpK) fun _ _ => .ret _ _)
    | bslice n zs ps => exact Gn.bind (P := CpK) CpK.no (F := fun k => fillK ps t zs k) (.fillK _ _ _) fun l => Gn.alloc (P := CpK) fun _ _ => .ret _ _
    | mkmap => exact Gn.alloc (P := CpK) (h := h) (o := .mp []) (G := fun r h' k => k (.map r) h') fun _ _ => .ret _ _
    | mkslice e zs b l c => exact Gn.nat CpK.no fun n => Gn.nat CpK.no fun m => Gn.ifK CpK.no (Gn.ifK CpK.no (Gn.ifK CpK.no (Gn.alloc (P := CpK) fun _ _ => .ret _ _)))
    | st1 a x => exact Gn.onPtr CpK.no fun b i => Gn.bind (P := CpK) CpK.no (F := fun k => h.st1 b i (x.ev t) k) (.st1 h b i _) fun h' => .ret _ _
    | stn n a x => exact Gn.onPtr CpK.no fun b i => Gn.onAgg CpK.no fun c => Gn.ifK CpK.no (Gn.bind (P := CpK) CpK.no (F := fun k => h.stn b i c k) (.stn h b i c) fun h' => .ret _ _)
    | mset ag sh m key x =>
      change CpK fun k => keyCells ag (key.ev t) fun c => ifK (Nat.beq (llen c) (llen sh)) ((m.ev t).onMap none fun r => h.mapK r fun es => setKK S ag sh (key.ev t) (x.ev t) es fun es' => k (.tup []) (h.put r (.mp es')))
      refine Gn.bind (P := CpK) CpK.no (F := fun k => keyCells ag (key.ev t) k) (.keyCells _ _) fun c => Gn.ifK CpK.no (Gn.onMap (P := CpK) CpK.no fun r => ?_)
      exact Gn.bind (P := CpK) CpK.no (F := fun k => h.mapK r k) (.mapK h r) fun es => Gn.bind (P := CpK) CpK.no (F := fun k => setKK S ag sh (key.ev t) (x.ev t) es k) (.setKK _ _ _ _ _ _) fun es' => .ret _ _
    | del ag sh m key =>
      change CpK fun k => keyCells ag (key.ev t) fun c => ifK (Nat.beq (llen c) (llen sh)) ((m.ev t).onMap none fun r => h.mapK r fun es => delKK S ag sh (key.ev t) es fun es' => k (.tup []) (h.put r (.mp es')))
      refine Gn.bind (P := CpK) CpK.no (F := fun k => keyCells ag (key.ev t) k) (.keyCells _ _) fun c => Gn.ifK CpK.no (Gn.onMap (P := CpK) CpK.no fun r => ?_)
      exact Gn.bind (P := CpK) CpK.no (F := fun k => h.mapK r k) (.mapK h r) fun es => Gn.bind (P := CpK) CpK.no (F := fun k => delKK S ag sh (key.ev t) es k) (.delKK _ _ _ _ _) fun es' => .ret _ _
    | call f as => exact callV_nat hE _ _ _
    | app esz by_ s x =>
      change CpK fun k => lenK (s.ev t) fun len => lenK (x.ev t) fun n => h.elems esz (x.ev t) n fun new => ifK (appOk by_ (s.ev t) len n) (doApp h esz (s.ev t) new n k)
      exact Gn.bind (P := CpK) CpK.no (F := fun k => lenK (s.ev t) k) (.lenK _) fun len => Gn.bind (P := CpK) CpK.no (F := fun k => lenK (x.ev t) k) (.lenK _) fun n => Gn.bind (P := CpK) CpK.no (F := fun k => h.elems esz (x.ev t) n k) (.elems h esz _ n) fun new => Gn.ifK CpK.no (doApp_nat h esz _ new n)
    | copy esz d s =>
      change CpK fun k => lenK (d.ev t) fun dn => lenK (s.ev t) fun sn => h.elems esz (s.ev t) (Nat.min sn dn) fun cs =>
        (d.ev t).onSl (k (.int .i64 (.ofNat (Nat.min sn dn))) h) fun b o _ _ _ => h.stn b o cs fun h' => k (.int .i64 (.ofNat (Nat.min sn dn))) h'
      exact Gn.bind (P := CpK) CpK.no (F := fun k => lenK (d.ev t) k) (.lenK _) fun dn => Gn.bind (P := CpK) CpK.no (F := fun k => lenK (s.ev t) k) (.lenK _) fun sn => Gn.bind (P := CpK) CpK.no (F := fun k => h.elems esz (s.ev t) (Nat.min sn dn) k) (.elems h esz _ _) fun cs => Gn.onSl (P := CpK) (.ret _ _) fun b o _ _ _ => Gn.bind (P := CpK) CpK.no (F := fun k => h.stn b o cs k) (.stn h b o cs) fun h' => .ret _ _
    | clear zs x => exact Gn.onSl (P := CpK) CpK.no fun b o n _ _ => Gn.bind (P := CpK) CpK.no (F := fun k => h.stn b o (repl zs n) k) (.stn h b o _) fun h' => .ret _ _
    | appz e zs s n => exact Gn.nat CpK.no fun m => Gn.ifK CpK.no (Gn.ifK CpK.no (Gn.ifK CpK.no (Gn.alloc (P := CpK) fun _ _ => .ret _ _)))
    | rng x => exact Gn.onMap (P := CpK) (Gn.ifK CpK.no (Gn.alloc (P := CpK) (h := h) (o := .iter none) (G := fun r h' k => k (.ptr r 0) h') fun _ _ => .ret _ _)) fun m => Gn.bind (P := CpK) CpK.no (F := fun k => h.mapK m k) (.mapK h m) fun es => Gn.alloc (P := CpK) (h := h) (o := .iter (some m)) (G := fun r h' k => k (.ptr r 0) h') fun _ _ => .ret _ _
    | nxt x =>
      refine Gn.onPtr CpK.no fun b i => Gn.ifK CpK.no (Gn.bind (P := CpK) CpK.no (F := fun k => h.iterK b k) (.iterK h b) fun m => Gn.opt (P := CpK) (.ret _ _) fun m => Gn.bind (P := CpK) CpK.no (F := fun k => h.mapK m k) (.mapK h m) fun es => ?_)
      cases es with
      | nil => exact .ret _ _
      | cons _ _ => exact CpK.no
    | bad => exact CpK.no
    | _ => exact absurd rfl h0

theorem wantK_nat (hE : EnvNat call round loop) {κ : Type} {P : (κ → R) → Prop} (g : Option (Pos × Bool)) (t : T) {F G : κ → R} (hF : P F) (hG : P G) : P (fun k => wantK g t (F k) (G k)) := by
  cases g with
  | none => exact hG
  | some p =>
    obtain ⟨d, w⟩ := p
    show P (fun k => V.on ((Opd.t d).ev t) (F k) (fun b => Bool.rec (motive := fun _ => R) (F k) (G k) (beqB b w)) _ _ _ _ _ _ _)
    cases (Opd.t d).ev t with
    | bool b => exact Gn.bool hF hG
    | _ => exact hF

theorem opers_nat (hE : EnvNat call round loop) (l : List IOpr) : ∀ t h, CpT (opers S l (.mk call round loop) t h) := by
  induction l with
  | nil => intro t h; exact .ret t h
  | cons o l ih =>
    intro t h
    obtain ⟨d, g, late, op⟩ := o
    exact wantK_nat hE (P := CpT) g t (ih _ _) (Gn.bindK (P := CpT) CpT.no (exec_nat hE op t h) fun v h' => ih _ _)

theorem rechk_nat (hE : EnvNat call round loop) (h : H) (l : List Pend) : Cp (rechk S (.mk call round loop) h l) := by
  induction l with
  | nil => exact .ret _
  | cons p l ih =>
    obtain ⟨n, op, t, v⟩ := p
    cases n with
    | zero => exact ih
    | succ n =>
      change Cp fun k => exec S (.mk call round loop) op t h fun v' _ => ifK (vsame v v') (rechk S (.mk call round loop) h l fun l' => k (⟨n, op, t, v⟩ :: l'))
      exact Gn.bindK (P := Cp) .none (exec_nat hE op t h) fun v' _ => .ifK (Cp.bind (F := fun k => rechk S (.mk call round loop) h l k) (G := fun l' k => k (⟨n, op, t, v⟩ :: l')) ih fun l' => .ret _)

theorem isK3_eq (hE : EnvNat call round loop) (op : IOp) (a b : R) : isK3 op a b = if op.kind = 3 then a else b := by
  cases op <;> rfl

theorem opersD_nat (hE : EnvNat call round loop) (l : List IOpr) : ∀ pend t h, CpT (opersD S l (.mk call round loop) pend t h) := by
  induction l with
  | nil => intro _ t h; exact .ret t h
  | cons o l ih =>
    intro pend t h
    obtain ⟨d, g, late, op⟩ := o
    refine wantK_nat hE (P := CpT) g t (F := fun k => isK3 op (rechk S (.mk call round loop) h pend fun pend' => opersD S l (.mk call round loop) pend' (tset d (.tup []) t) h k) (opersD S l (.mk call round loop) pend (tset d (.tup []) t) h k))
      (G := fun k => exec S (.mk call round loop) op t h fun v h' => isK3 op (rechk S (.mk call round loop) h' pend fun pend' => opersD S l (.mk call round loop) pend' (tset d v t) h' k) (Ab.ifK (mkOk op h) (opersD S l (.mk call round loop) (pendAdd late op t v pend) (tset d v t) h' k))) ?_ ?_
    · simp only [isK3_eq hE]
      by_cases h3 : op.kind = 3
      · simp only [h3, if_true]; exact Gn.bind (P := CpT) CpT.no (rechk_nat hE h pend) fun p => ih _ _ _
      · simp only [h3, if_false]; exact ih _ _ _
    · refine Gn.bindK (P := CpT) CpT.no (exec_nat hE op t h) (G := fun v h' k => isK3 op (rechk S (.mk call round loop) h' pend fun pend' => opersD S l (.mk call round loop) pend' (tset d v t) h' k) (Ab.ifK (mkOk op h) (opersD S l (.mk call round loop) (pendAdd late op t v pend) (tset d v t) h' k))) fun v h' => ?_
      simp only [isK3_eq hE]
      by_cases h3 : op.kind = 3
      · simp only [h3, if_true]; exact Gn.bind (P := CpT) CpT.no (rechk_nat hE h' pend) fun p => ih _ _ _
      · simp only [h3, if_false]; exact Gn.ifK CpT.no (ih _ _ _)

theorem loopK_nat (hE : EnvNat call round loop) {κ : Type} {P : (κ → R) → Prop} (hn : P fun _ => none) (h : H) (l : Pos) {G : Nat → T → List Pos → IC → IC → κ → R} (hG : ∀ a b c d e, P (G a b c d e)) : P (fun k => h.loopK l fun a b c d e => G a b c d e k) :=
  Gn.bind (P := P) hn (F := fun k => h.getK l k) (.getH h l) (G := fun o k => O.rec (motive := fun _ => R) (fun _ => none) (fun _ _ _ _ => none) (fun _ => none) (fun a b c d e => G a b c d e k) none (fun _ => none) o)
    fun o => by cases o <;> first | exact hG _ _ _ _ _ | exact hn

theorem code_nat (hE : EnvNat call round loop) (c : IC) : ∀ t h, CpE fun k => code S c (.mk call round loop) t h k.1 k.2 := by
  induction c with
  | skip => intro t h; exact .ret t h
  | ret => intro t h; exact .out none t h
  | bad => intro t h; exact CpE.no
  | reg ops => intro t h; exact Gn.bindT (P := CpE) CpE.no (opers_nat hE ops t h) fun t h => .ret t h
  | regd ops => intro t h; exact Gn.bindT (P := CpE) CpE.no (opersD_nat hE ops [] t h) fun t h => .ret t h
  | seq a b iha ihb => intro t h; exact Gn.bindE (P := CpE) CpE.no (iha t h) (fun t h => ihb t h) fun e t h => .out e t h
  | cond c a b iha ihb => intro t h; exact Gn.onBool CpE.no fun w => Gn.bool (P := CpE) (ihb t h) (iha t h)
  | block id b ih =>
    intro t h
    exact Gn.bindE (P := CpE) CpE.no (ih t h) (fun t h => .ret t h) (G' := fun e t h k => Option.rec (motive := fun _ => R) (k.2 none t h) (fun j => Bool.rec (motive := fun _ => R) (k.2 (some j) t h) (k.1 t h) (Nat.beq j id)) e)
      fun e t h => Gn.opt (P := CpE) (.out none t h) fun j => Gn.bool (P := CpE) (.out _ t h) (.ret t h)
  | loop b ih => intro t h; exact hE.loop b t h
  | exit id => intro t h; exact .out (some id) t h
  | rfun f ps as bd _ _ =>
    intro t h
    change CpE fun k => h.alloc (.loop 0 t ps as bd) fun l h1 => Env.callFn (.mk call round loop) (f.ev t) [.yield l] h1 fun _ h2 => h2.loopK l fun st _ _ _ _ => Nat.rec (motive := fun _ => R) (k.1 t (h2.put l .dead))
        (fun s _ => Nat.rec (motive := fun _ => R) none (fun s _ => Nat.rec (motive := fun _ => R) (k.2 none t (h2.put l .dead)) (fun id _ => k.2 (some id) t (h2.put l .dead)) s) s) st
    refine Gn.alloc (P := CpE) fun l h1 => Gn.bindK (P := CpE) CpE.no (callFn_nat hE (f.ev t) [.yield l] h1) fun _ h2 => loopK_nat hE (P := CpE) CpE.no h2 l fun st _ _ _ _ => ?_
    cases st with
    | zero => exact .ret _ _
    | succ s => cases s with
      | zero => exact CpE.no
      | succ s => cases s with
        | zero => exact .out none _ _
        | succ s => exact .out (some s) _ _

theorem resK_nat (hE : EnvNat call round loop) (l : List (Pos × Option Nat × Bool)) (t : T) (h : H) : Cp (resK l t h) := by
  induction l with
  | nil => exact .ret _
  | cons r l ih =>
    obtain ⟨p, n, ag⟩ := r
    refine Cp.opt (D := fun k => resK l t h fun vs => k ((Opd.t p).ev t :: vs)) (G := fun n k => ((Opd.t p).ev t).onPtr fun b i => Bool.rec (motive := fun _ => R)
          (h.ld1 b i fun v => resK l t h fun vs => k (v :: vs)) (h.ldn b i n fun c => resK l t h fun vs => k (.agg c :: vs)) ag) ?_ fun n => .onPtr fun b i => .bool ?_ ?_
    · exact Cp.bind (F := resK l t h) (G := fun vs k => k ((Opd.t p).ev t :: vs)) ih fun vs => .ret _
    · exact Cp.bind (F := fun k => h.ld1 b i k) (G := fun v k => resK l t h fun vs => k (v :: vs)) (.ld1 h b i) fun v => Cp.bind (F := resK l t h) (G := fun vs k => k (v :: vs)) ih fun vs => .ret _
    · exact Cp.bind (F := fun k => h.ldn b i n k) (G := fun c k => resK l t h fun vs => k (.agg c :: vs)) (.ldn h b i n) fun v => Cp.bind (F := resK l t h) (G := fun vs k => k (.agg v :: vs)) ih fun vs => .ret _

theorem tsets_nat (hE : EnvNat call round loop) {κ : Type} {P : (κ → R) → Prop} (hn : P fun _ => none) (ps : List Pos) : ∀ (vs : List V) (t : T) {G : T → κ → R}, (∀ t, P (G t)) → P (fun k => tsets ps vs t fun t => G t k) := by
  induction ps with
  | nil => intro vs t G hG; cases vs; exact hG t; exact hn
  | cons p ps ih => intro vs t G hG; cases vs; exact hn; exact ih _ _ hG

theorem runF_nat (hE : EnvNat call round loop) (tab : Tr IFn) (f : Nat) (args : List V) (h : H) : CpK (runF S tab (.mk call round loop) f args h) := by
  unfold runF
  cases tab.get (Pos.of f) with
  | none => exact CpK.no
  | some fn =>
  obtain ⟨body, nt, res⟩ := fn
  change CpK fun k => ifK (Nat.ble (llen args) nt) (code S body (.mk call round loop) (ofL args 0 .nil) h (fun t h' => resK res t h' fun vs => k (resV vs) h')
      (fun e t h' => Option.rec (motive := fun _ => R) (resK res t h' fun vs => k (resV vs) h') (fun _ => none) e))
  refine Gn.ifK CpK.no ?_
  refine Gn.bindE (P := CpK) CpK.no (code_nat hE body _ h) (fun t h' => ?_) fun e t h' => ?_
  · exact Gn.bind (P := CpK) CpK.no (resK_nat hE res t h') fun vs => .ret _ _
  · exact Gn.opt (P := CpK) (Gn.bind (P := CpK) CpK.no (resK_nat hE res t h') fun vs => .ret _ _) fun _ => CpK.no

theorem runR_nat (hE : EnvNat call round loop) (l : Pos) (args : List V) (h : H) : CpK (runR S (.mk call round loop) l args h) := by
  unfold runR
  refine loopK_nat hE (P := CpK) CpK.no h l fun st t ps as bd => Gn.ifK CpK.no (tsets_nat hE (P := CpK) CpK.no ps args t fun t1 => ?_)
  refine Gn.bindE (P := CpK) CpK.no (code_nat hE as t1 h) (fun t2 h1 => ?_) fun e t h => CpK.no
  refine loopK_nat hE (P := CpK) CpK.no h1 l fun st' t' ps' as' bd' => Gn.ifK CpK.no ?_
  refine Gn.bindE (P := CpK) CpK.no (code_nat hE bd t2 _) (fun _ h2 => ?_) fun e _ h2 => ?_
  · exact loopK_nat hE (P := CpK) CpK.no h2 l fun _ _ _ _ _ => .ret _ _
  · exact loopK_nat hE (P := CpK) CpK.no h2 l fun _ _ _ _ _ => .ret _ _
end

/-- contracts hand on one thing at most -/
def OrcNat (orc : Orc) : Prop := ∀ f args h c, orc f args h = some c → CpK c

theorem env_nat {S : Sy} {orc : Orc} (ho : OrcNat orc) (tab : Tr IFn) (n : Nat) : ∃ call round loop, env S orc tab n = .mk call round loop ∧ EnvNat call round loop := by
  induction n with
  | zero => exact ⟨_, _, _, rfl, fun _ _ _ => CpK.no, fun _ _ _ => CpK.no, fun _ _ _ => CpE.no⟩
  | succ n ih =>
    obtain ⟨call, round, loop, e, hE⟩ := ih
    have : env S orc tab (n + 1) = .mk (fun f args h k => Option.rec (motive := fun _ => R) (runF S tab (env S orc tab n) f args h k) (fun c => c k) (orc f args h)) (runR S (env S orc tab n))
      (fun b t h kn kx => code S b (env S orc tab n) t h (fun t h => Env.rec (motive := fun _ => R) (fun _ _ l => l b t h kn kx) (env S orc tab n)) kx) := rfl
    rw [e] at this
    refine ⟨_, _, _, this, fun f args h => ?_, fun l args h => runR_nat hE l args h, fun b t h => ?_⟩
    · cases hc : orc f args h with
      | none => exact runF_nat hE tab f args h
      | some c => exact ho f args h c hc
    · exact Gn.bindE (P := CpE) CpE.no (code_nat hE b t h) (fun t h => hE.loop b t h) fun e t h => .out e t h
end Go.Ab

/- A region that draws its order: what its run in the turned order tells, place by place. -/
namespace Go.Ab

def RdOk (S : Sy) (E : Env) (op : IOp) (t : T) (v : V) (h : H) : Prop := ∀ H', HLe h H' → ∀ k, exec S E op t H' k = k v H'
theorem HLe.refl (h : H) : HLe h h := fun _ _ e => e
theorem HLe.trans {a b c : H} (x : HLe a b) (y : HLe b c) : HLe a c := fun p o e => y p o (x p o e)
theorem RdOk.mono {S : Sy} {E : Env} {op : IOp} {t : T} {v : V} {h h' : H} (x : RdOk S E op t v h) (hle : HLe h h') : RdOk S E op t v h' := fun H' e k => x H' (hle.trans e) k
theorem Pos.nat_eq (p : Pos) : p.nat = p.toNat := rfl
theorem Pos.nat_inj {p q : Pos} (h : Nat.beq p.nat q.nat = true) : p = q := by
  rw [Nat.beq_eq, Pos.nat_eq, Pos.nat_eq] at h; exact Pos.toNat_inj h
theorem andB_iff {a b : Bool} : andB a b = true ↔ a = true ∧ b = true := by cases a <;> simp [andB]
theorem vsame1_eq {v w : V} (h : vsame1 v w = true) : v = w := by
  unfold vsame1 at h
  split at h
  · rw [beqB_eq] at h; simpa using h
  · rw [andB_iff, kbeq_iff, ieq_eq] at h; obtain ⟨rfl, h⟩ := h; simp at h; rw [h]
  · rw [andB_iff, kbeq_iff, Nat.beq_eq] at h; obtain ⟨rfl, rfl⟩ := h; rfl
  · rfl
  · rfl
  · rfl
  · rfl
  · rw [andB_iff] at h; obtain ⟨h1, h2⟩ := h; rw [Nat.beq_eq] at h2; subst h2; rw [Pos.nat_inj h1]
  · rw [Pos.nat_inj h]
  · rw [andB_iff, andB_iff, andB_iff] at h; obtain ⟨h1, h2, h3, h4⟩ := h; rw [Nat.beq_eq] at h2 h3 h4; subst h2 h3 h4; rw [Pos.nat_inj h1]
  · rw [andB_iff, andB_iff, andB_iff, andB_iff] at h; obtain ⟨h0, h1, h2, h3, h4⟩ := h; rw [Nat.beq_eq] at h0 h2 h3 h4; subst h0 h2 h3 h4; rw [Pos.nat_inj h1]
  · rw [Nat.beq_eq] at h; rw [h]
  · split at h
    · rw [andB_iff, andB_iff] at h; obtain ⟨h0, h1, h2⟩ := h; rw [Nat.beq_eq] at h0 h2; subst h0 h2; rw [Pos.nat_inj h1]
    · cases h
  · split at h
    · rw [andB_iff, andB_iff] at h; obtain ⟨h0, h1, h2⟩ := h; rw [Nat.beq_eq] at h0 h2; subst h0 h2; rw [Pos.nat_inj h1]
    · cases h
  · split at h
    · rw [andB_iff, andB_iff, andB_iff, andB_iff] at h; obtain ⟨h0, ⟨h1, h2⟩, h3, h4⟩ := h; rw [Nat.beq_eq] at h0 h2 h4; subst h0 h2 h4; rw [Pos.nat_inj h1, Pos.nat_inj h3]
    · cases h
  · cases h
theorem vsameL_eq {vs ws : List V} (h : vsameL vs ws = true) : vs = ws := by
  induction vs generalizing ws with
  | nil => cases ws; rfl; cases h
  | cons v vs ih =>
    cases ws with
    | nil => cases h
    | cons w ws => obtain ⟨h1, h2⟩ := andB_iff.1 (show andB (vsame1 v w) (vsameL vs ws) = true from h); rw [vsame1_eq h1, ih h2]
theorem vsame_eq {v w : V} (h : vsame v w = true) : v = w := by
  unfold vsame at h
  split at h
  · rw [vsameL_eq h]
  · exact vsame1_eq h
theorem H.fresh_iff {h : H} (e : h.fresh = true) : h.get h.nx = none := by
  cases h with
  | mk nx m =>
    show m.get nx = none
    cases hm : m.get nx with
    | none => rfl
    | some o => simp [H.fresh, Tr.getO_eq, hm] at e
theorem mkOk_iff {op : IOp} {h : H} (e : mkOk op h = true) (hk : op.kind = 2) : h.get h.nx = none := by
  unfold mkOk at e; rw [hk] at e; exact H.fresh_iff e

theorem wantK_two (g : Option (Pos × Bool)) (t : T) : (∀ a b, wantK g t a b = a) ∨ ∀ a b, wantK g t a b = b := by
  cases g with
  | none => exact .inr fun _ _ => rfl
  | some p =>
    obtain ⟨d, w⟩ := p
    have ab : ∀ no yes, wantK (some (d, w)) t no yes = V.on ((Opd.t d).ev t) no (fun b => Bool.rec (motive := fun _ => R) no yes (beqB b w)) (fun _ _ => no) (fun _ _ => no) (fun _ _ _ _ _ => no) (fun _ => no) (fun _ _ _ => no) (fun _ => no) (fun _ => no) := fun _ _ => rfl
    cases hv : (Opd.t d).ev t with
    | bool b =>
      by_cases e : b = w
      · right; intro x y; rw [ab, hv]; subst e; cases b <;> rfl
      · left; intro x y; rw [ab, hv]; cases b <;> cases w <;> first | rfl | exact absurd rfl e
    | _ => left; intro x y; rw [ab, hv]; rfl

theorem kind_le (op : IOp) : op.kind = 0 ∨ op.kind = 1 ∨ op.kind = 2 ∨ op.kind = 3 := by cases op <;> simp [IOp.kind]

/-- abstract memories that have no block from their next one on: not needed; a new block harms no older one that differs -/
theorem kind2_heap {S : Sy} {E : Env} {op : IOp} (hk : op.kind = 2) {t : T} {h : H} {k : K} {r : V × H} (hx : exec S E op t h k = some r) : ∃ v ob, k v (h.push ob) = some r := by
  cases op with
  | new zs => exact ⟨_, _, (H.alloc_eq h (mkO zs) (fun r h' => k (.ptr r 0) h')).symm.trans hx⟩
  | box x => obtain ⟨_, hx⟩ := ifK_some.1 hx; exact ⟨_, _, (H.alloc_eq h _ (fun r h' => k (.ptr r 0) h')).symm.trans hx⟩
  | mkmap => exact ⟨_, _, (H.alloc_eq h (.mp []) (fun r h' => k (.map r) h')).symm.trans hx⟩
  | bslice n zs ps =>
    rcases Cp.fillK ps t zs with hn | ⟨l, hl⟩
    · rw [show exec S E (.bslice n zs ps) t h k = none from hn _] at hx; cases hx
    · rw [show exec S E (.bslice n zs ps) t h k = _ from hl _] at hx
      exact ⟨_, _, (H.alloc_eq h (mkO l) (fun r h' => k (.sl r 0 n n none) h')).symm.trans hx⟩
  | mkslice e z b l c =>
    obtain ⟨_, n, _, hx⟩ := V.nat_some (v := l.ev t) hx
    obtain ⟨_, m, _, hx⟩ := V.nat_some hx
    obtain ⟨_, hx⟩ := ifK_some.1 hx
    obtain ⟨_, hx⟩ := ifK_some.1 hx
    obtain ⟨_, hx⟩ := ifK_some.1 hx
    exact ⟨_, _, (H.alloc_eq h _ (fun r h' => k (.sl r 0 n m none) h')).symm.trans hx⟩
  | _ => cases hk

/-- so many writers stand among the first ones -/
noncomputable def cnt (L : List IOpr) (q : Nat) : Nat := (L.take q).countP fun o => o.op.kind == 3
theorem cnt_zero (L : List IOpr) : cnt L 0 = 0 := by simp [cnt]
theorem cnt_cons (o : IOpr) (L : List IOpr) (q : Nat) : cnt (o :: L) (q + 1) = cnt L q + if o.op.kind = 3 then 1 else 0 := by
  simp [cnt, List.take_succ_cons, List.countP_cons]

/-- blocks stand below the next one -/
def Below (h : H) : Prop := ∀ b, h.nx.toNat ≤ b.toNat → h.get b = none

structure Can (S : Sy) (E : Env) (L : List IOpr) (pend : List Pend) (t : T) (h : H) (k : T → H → R) (r : V × H) (ts : Nat → T) (hs : Nat → H) (vs : Nat → V) (wt : Nat → Bool) : Prop where
  t0 : ts 0 = t
  h0 : hs 0 = h
  fin : k (ts L.length) (hs L.length) = some r
  tst : ∀ p o, L[p]? = some o → ts (p + 1) = tset o.dst (vs p) (ts p)
  no : ∀ p o, L[p]? = some o → wt p = false → vs p = .tup [] ∧ hs (p + 1) = hs p ∧ ∀ a b, wantK o.guard (ts p) a b = a
  yes : ∀ p o, L[p]? = some o → wt p = true → (∀ a b, wantK o.guard (ts p) a b = b) ∧ ∀ k', exec S E o.op (ts p) (hs p) k' = k' (vs p) (hs (p + 1))
  k01 : ∀ p o, L[p]? = some o → wt p = true → o.op.kind = 0 ∨ o.op.kind = 1 → hs (p + 1) = hs p
  k2 : ∀ p o, L[p]? = some o → wt p = true → o.op.kind = 2 → ∃ ob, hs (p + 1) = (hs p).push ob ∧ (hs p).get (hs p).nx = none
  rd : ∀ p o q, L[p]? = some o → wt p = true → o.op.kind = 1 → p + 1 + q ≤ L.length → cnt (L.drop (p + 1)) q ≤ o.late → RdOk S E o.op (ts p) (vs p) (hs (p + 1 + q))
  pf : ∀ e ∈ pend, ∀ q, q ≤ L.length → 1 ≤ cnt L q → cnt L q ≤ e.n → RdOk S E e.op e.t e.v (hs q)

def ncons {α : Type} (x : α) (f : Nat → α) : Nat → α
  | 0 => x
  | n + 1 => f n

/-- two next ones: memories that follow each other without a writer between them -/
theorem push_le {h : H} (hb : h.get h.nx = none) (ob : O) : HLe h (h.push ob) := by
  intro b o e
  rw [H.get_push_ne]
  · exact e
  · rintro rfl; rw [hb] at e; cases e

section
variable {S : Sy} {call : Nat → List V → H → K → R} {round : Pos → List V → H → K → R} {loop : IC → T → H → (T → H → R) → (Option Nat → T → H → R) → R}

theorem rechk_some (h : H) (l : List Pend) {K' : List Pend → R} {r : V × H} (hl : ∀ e ∈ l, e.op.kind = 1) (hx : rechk S (.mk call round loop) h l K' = some r) :
    ∃ l', K' l' = some r ∧ (∀ e ∈ l', e.op.kind = 1) ∧ ∀ e ∈ l, 1 ≤ e.n → RdOk S (.mk call round loop) e.op e.t e.v h ∧ (⟨e.n - 1, e.op, e.t, e.v⟩ : Pend) ∈ l' := by
  induction l generalizing K' with
  | nil => exact ⟨[], hx, by simp, by simp⟩
  | cons p l ih =>
    obtain ⟨n, op, t, v⟩ := p
    have hl' : ∀ e ∈ l, e.op.kind = 1 := fun e he => hl e (by simp [he])
    cases n with
    | zero =>
      obtain ⟨l', h1, h2, h3⟩ := ih hl' (K' := K') hx
      refine ⟨l', h1, h2, fun e he hn => ?_⟩
      rcases List.mem_cons.1 he with rfl | he
      · simp at hn
      · exact h3 e he hn
    | succ n =>
      have hx : exec S (.mk call round loop) op t h (fun v' _ => ifK (vsame v v') (rechk S (.mk call round loop) h l fun l' => K' (⟨n, op, t, v⟩ :: l'))) = some r := hx
      have hk : op.kind = 1 := hl ⟨n + 1, op, t, v⟩ (by simp)
      obtain ⟨v', hx, hrd⟩ := kind1_spec hk hx
      obtain ⟨hsame, hx2⟩ := ifK_some.1 hx
      have hv : v = v' := vsame_eq hsame
      subst hv
      obtain ⟨l', h1, h2, h3⟩ := ih hl' (K' := fun l' => K' (⟨n, op, t, v⟩ :: l')) hx2
      refine ⟨_, h1, fun e he => ?_, fun e he hn => ?_⟩
      · rcases List.mem_cons.1 he with rfl | he
        · exact hk
        · exact h2 e he
      · rcases List.mem_cons.1 he with rfl | he
        · exact ⟨hrd, by simp⟩
        · obtain ⟨a, b⟩ := h3 e he hn
          exact ⟨a, List.mem_cons_of_mem _ b⟩

/-- one operation put ahead -/
theorem Can.cons (hE : EnvNat call round loop) {o : IOpr} {L : List IOpr} {pend pend1 : List Pend} {t t1 : T} {h h1 : H} {k : T → H → R} {r : V × H} {ts : Nat → T} {hs : Nat → H} {vs : Nat → V} {wt : Nat → Bool} {v : V} {w : Bool}
    (c : Can S (.mk call round loop) L pend1 t1 h1 k r ts hs vs wt)
    (ht : t1 = tset o.dst v t) (hno : w = false → v = .tup [] ∧ h1 = h ∧ ∀ a b, wantK o.guard t a b = a)
    (hyes : w = true → (∀ a b, wantK o.guard t a b = b) ∧ ∀ k', exec S (.mk call round loop) o.op t h k' = k' v h1) (h01 : w = true → o.op.kind = 0 ∨ o.op.kind = 1 → h1 = h)
    (h2 : w = true → o.op.kind = 2 → ∃ ob, h1 = h.push ob ∧ h.get h.nx = none)
    (hr : w = true → o.op.kind = 1 → RdOk S (.mk call round loop) o.op t v h1 ∧ (1 ≤ o.late → (⟨o.late, o.op, t, v⟩ : Pend) ∈ pend1))
    (hp3 : o.op.kind = 3 → ∀ e ∈ pend, 1 ≤ e.n → RdOk S (.mk call round loop) e.op e.t e.v h1 ∧ (⟨e.n - 1, e.op, e.t, e.v⟩ : Pend) ∈ pend1)
    (hp : o.op.kind ≠ 3 → ∀ e ∈ pend, e ∈ pend1) :
    Can S (.mk call round loop) (o :: L) pend t h k r (ncons t ts) (ncons h hs) (ncons v vs) (ncons w wt) := by
  have hle : ∀ q, q ≤ L.length → cnt L q = 0 → HLe h1 (hs q) := by
    intro q
    induction q with
    | zero => intro _ _; rw [c.h0]; exact HLe.refl _
    | succ q ih =>
      intro hq hc
      have hlt : q < L.length := by omega
      have ho : L[q]? = some L[q] := List.getElem?_eq_getElem hlt
      have hsplit : cnt L (q + 1) = cnt L q + if L[q].op.kind = 3 then 1 else 0 := by
        unfold cnt
        rw [List.take_add_one, ho, List.countP_append]
        congr 1
        by_cases e : L[q].op.kind = 3 <;> simp [e]
      have h3 : L[q].op.kind ≠ 3 := fun e => by rw [hsplit, if_pos e] at hc; omega
      have := ih (by omega) (by rw [hsplit] at hc; omega)
      refine this.trans ?_
      cases hw : wt q with
      | false => rw [(c.no q _ ho hw).2.1]; exact HLe.refl _
      | true =>
        rcases kind_le L[q].op with hk | hk | hk | hk
        · rw [c.k01 q _ ho hw (.inl hk)]; exact HLe.refl _
        · rw [c.k01 q _ ho hw (.inr hk)]; exact HLe.refl _
        · obtain ⟨ob, e, hf⟩ := c.k2 q _ ho hw hk; rw [e]; exact push_le hf ob
        · exact absurd hk h3
  refine ⟨rfl, rfl, by simpa [ncons] using c.fin, fun p oo hoo => ?_, fun p oo hoo => ?_, fun p oo hoo => ?_, fun p oo hoo => ?_, fun p oo hoo => ?_, fun p oo q hoo => ?_, fun e he q => ?_⟩
  · cases p with
    | zero => simp at hoo; subst hoo; show ts 0 = _; rw [c.t0, ht]; rfl
    | succ p => exact c.tst p oo (by simpa using hoo)
  · cases p with
    | zero => simp at hoo; subst hoo; intro hw; obtain ⟨a, b, d⟩ := hno hw; exact ⟨a, by show hs 0 = h; rw [c.h0, b], d⟩
    | succ p => exact c.no p oo (by simpa using hoo)
  · cases p with
    | zero => simp at hoo; subst hoo; intro hw; obtain ⟨a, b⟩ := hyes hw; exact ⟨a, fun k' => by show exec S _ _ t h k' = k' v (hs 0); rw [c.h0, b]⟩
    | succ p => exact c.yes p oo (by simpa using hoo)
  · cases p with
    | zero => simp at hoo; subst hoo; intro hw hk; show hs 0 = h; rw [c.h0, h01 hw hk]
    | succ p => exact c.k01 p oo (by simpa using hoo)
  · cases p with
    | zero => simp at hoo; subst hoo; intro hw hk; obtain ⟨ob, a, b⟩ := h2 hw hk; exact ⟨ob, by show hs 0 = h.push ob; rw [c.h0, a], b⟩
    | succ p => exact c.k2 p oo (by simpa using hoo)
  · cases p with
    | zero =>
      simp at hoo; subst hoo
      intro hw hk hq hc
      obtain ⟨a, b⟩ := hr hw hk
      simp only [List.length_cons] at hq
      have hc : cnt L q ≤ o.late := by simpa using hc
      show RdOk S _ o.op t v (ncons h hs (0 + 1 + q))
      rw [show 0 + 1 + q = q + 1 by omega]
      show RdOk S _ o.op t v (hs q)
      by_cases hz : cnt L q = 0
      · exact a.mono (hle q (by omega) hz)
      · exact c.pf _ (b (by omega)) q (by omega) (by omega) hc
    | succ p =>
      intro hw hk hq hc
      simp only [List.length_cons] at hq
      have := c.rd p oo q (by simpa using hoo) hw hk (by omega) (by simpa using hc)
      show RdOk S _ oo.op (ts p) (vs p) (ncons h hs (p + 1 + 1 + q))
      rw [show p + 1 + 1 + q = (p + 1 + q) + 1 by omega]
      exact this
  · cases q with
    | zero => intro _ h1; rw [cnt_zero] at h1; omega
    | succ q =>
      intro hq hc1 hc2
      simp only [List.length_cons] at hq
      rw [cnt_cons] at hc1 hc2
      show RdOk S _ e.op e.t e.v (hs q)
      by_cases h3 : o.op.kind = 3
      · rw [if_pos h3] at hc1 hc2
        obtain ⟨a, b⟩ := hp3 h3 e he (by omega)
        by_cases hz : cnt L q = 0
        · exact a.mono (hle q (by omega) hz)
        · exact c.pf _ b q (by omega) (by omega) (by show cnt L q ≤ e.n - 1; omega)
      · rw [if_neg h3] at hc1 hc2
        exact c.pf e (hp h3 e he) q (by omega) (by omega) (by omega)

theorem pendAdd_eq (n : Nat) (op : IOp) (t : T) (v : V) (l : List Pend) : pendAdd n op t v l = if n = 0 then l else ⟨n, op, t, v⟩ :: l := by cases n <;> rfl

theorem opersD_can (hE : EnvNat call round loop) (L : List IOpr) : ∀ (pend : List Pend) (t : T) (h : H) (k : T → H → R) (r : V × H), (∀ e ∈ pend, e.op.kind = 1) → (∀ o ∈ L, o.late ≠ 0 → o.op.kind = 1) →
    opersD S L (.mk call round loop) pend t h k = some r → ∃ ts hs vs wt, Can S (.mk call round loop) L pend t h k r ts hs vs wt := by
  induction L with
  | nil =>
    intro pend t h k r _ _ hx
    exact ⟨fun _ => t, fun _ => h, fun _ => .tup [], fun _ => false, rfl, rfl, hx, by simp, by simp, by simp, by simp, by simp, by simp, fun e _ q hq h1 => by simp [cnt] at h1⟩
  | cons o L ih =>
    intro pend t h k r hpk hlk hx
    obtain ⟨d, g, late, op⟩ := o
    have hlk' : ∀ o ∈ L, o.late ≠ 0 → o.op.kind = 1 := fun o ho => hlk o (by simp [ho])
    rcases wantK_two g t with hw | hw
    · have hx : isK3 op (rechk S (.mk call round loop) h pend fun pend' => opersD S L (.mk call round loop) pend' (tset d (.tup []) t) h k) (opersD S L (.mk call round loop) pend (tset d (.tup []) t) h k) = some r := (hw _ _).symm.trans hx
      rw [isK3_eq hE] at hx
      by_cases h3 : op.kind = 3
      · rw [if_pos h3] at hx
        obtain ⟨l', h1, h2, h4⟩ := rechk_some h pend hpk hx
        obtain ⟨ts, hs, vs, wt, c⟩ := ih l' _ _ _ _ h2 hlk' h1
        exact ⟨_, _, _, _, Can.cons hE (o := ⟨d, g, late, op⟩) (v := .tup []) (w := false) c rfl (fun _ => ⟨rfl, rfl, hw⟩) (fun h => by cases h) (fun h => by cases h) (fun h => by cases h) (fun h => by cases h) (fun _ => h4) (fun hn => absurd h3 hn)⟩
      · rw [if_neg h3] at hx
        obtain ⟨ts, hs, vs, wt, c⟩ := ih pend _ _ _ _ hpk hlk' hx
        exact ⟨_, _, _, _, Can.cons hE (o := ⟨d, g, late, op⟩) (v := .tup []) (w := false) c rfl (fun _ => ⟨rfl, rfl, hw⟩) (fun h => by cases h) (fun h => by cases h) (fun h => by cases h) (fun h => by cases h) (fun hn => absurd hn h3) (fun _ e he => he)⟩
    · have hx : exec S (.mk call round loop) op t h (fun v h' => isK3 op (rechk S (.mk call round loop) h' pend fun pend' => opersD S L (.mk call round loop) pend' (tset d v t) h' k) (ifK (mkOk op h) (opersD S L (.mk call round loop) (pendAdd late op t v pend) (tset d v t) h' k))) = some r := (hw _ _).symm.trans hx
      rcases exec_nat hE (S := S) op t h with hn | ⟨v, h', hn⟩
      · rw [hn] at hx; cases hx
      · have hx1 := hx
        rw [hn, isK3_eq hE] at hx
        by_cases h3 : op.kind = 3
        · rw [if_pos h3] at hx
          obtain ⟨l', h1, h2, h4⟩ := rechk_some h' pend hpk hx
          obtain ⟨ts, hs, vs, wt, c⟩ := ih l' _ _ _ _ h2 hlk' h1
          refine ⟨_, _, _, _, Can.cons hE (o := ⟨d, g, late, op⟩) (v := v) (w := true) c rfl (fun h => by cases h) (fun _ => ⟨hw, hn⟩) (fun _ hk => ?_) (fun _ hk => ?_) (fun _ hk => ?_) (fun _ => h4) (fun hn => absurd h3 hn)⟩
          · simp only at hk; omega
          · simp only at hk; omega
          · simp only at hk; omega
        · rw [if_neg h3] at hx
          obtain ⟨hmk, hx⟩ := ifK_some.1 hx
          have hpk' : ∀ e ∈ pendAdd late op t v pend, e.op.kind = 1 := by
            rw [pendAdd_eq]
            split
            · exact hpk
            · rename_i hl
              intro e he
              rcases List.mem_cons.1 he with rfl | he
              · exact hlk ⟨d, g, late, op⟩ (by simp) hl
              · exact hpk e he
          obtain ⟨ts, hs, vs, wt, c⟩ := ih _ _ _ _ _ hpk' hlk' hx
          have hpair := hn (fun v h => some (v, h))
          refine ⟨_, _, _, _, Can.cons hE (o := ⟨d, g, late, op⟩) (v := v) (w := true) c rfl (fun h => by cases h) (fun _ => ⟨hw, hn⟩) (fun _ hk => ?_) (fun _ hk => ?_) (fun _ hk => ?_) (fun hk => absurd hk h3) (fun _ e he => ?_)⟩
          · rcases hk with hk | hk
            · obtain ⟨v', e1, _⟩ := kind0_spec hk hpair; simp at e1; exact e1.2.symm
            · obtain ⟨v', e1, _⟩ := kind1_spec hk hpair; simp at e1; exact e1.2.symm
          · obtain ⟨v', ob, e1⟩ := kind2_heap hk hpair
            simp at e1
            exact ⟨ob, e1.2.symm, mkOk_iff hmk hk⟩
          · obtain ⟨v', e1, e2⟩ := kind1_spec hk hpair
            simp at e1
            obtain ⟨rfl, rfl⟩ := e1
            refine ⟨e2, fun hl => ?_⟩
            rw [pendAdd_eq, if_neg (by simp only at hl; omega)]; simp
          · rw [pendAdd_eq]
            split
            · exact he
            · exact List.mem_cons_of_mem _ he
end
end Go.Ab

/- A region that draws its order: what the check of its turned order tells. -/
namespace Go.Ab

structure ChkOk (ops : Array Oper) (es : List Ent) : Prop where
  lt : ∀ (p : Nat) (e : Ent), es[p]? = some e → e.j < ops.size
  surj : ∀ i, i < ops.size → ∃ (p : Nat) (e : Ent), es[p]? = some e ∧ e.j = i
  jne : ∀ (p q : Nat) (e f : Ent), p < q → es[p]? = some e → es[q]? = some f → e.j ≠ f.j
  dne : ∀ (p q : Nat) (e f : Ent) (d : Pos), p < q → es[p]? = some e → es[q]? = some f → e.io.dst = some d → f.io.dst ≠ some d
  own : ∀ (p : Nat) (e : Ent) (d : Pos), es[p]? = some e → e.io.dst = some d → rdsIn d e.io = false
  rw : ∀ (p q : Nat) (e f : Ent) (d : Pos), p < q → es[p]? = some e → es[q]? = some f → f.io.dst = some d → rdsIn d e.io = true → e.j ∈ f.ps
  wr : ∀ (p q : Nat) (e f : Ent) (d : Pos), p < q → es[p]? = some e → es[q]? = some f → e.io.dst = some d → rdsIn d f.io = true → e.j ∈ f.ps
  seg : ∀ (q : Nat) (f : Ent), es[q]? = some f → (∀ (p : Nat) (e : Ent), p < q → es[p]? = some e → e.io.op.kind ≠ 3) ∨
    ∃ (s : Nat) (e : Ent), s < q ∧ es[s]? = some e ∧ e.j ∈ f.ps ∧ ∀ (y : Nat) (g : Ent), y < q → es[y]? = some g → g.io.op.kind = 3 → y ≤ s
  topo : ∀ (q : Nat) (f : Ent), es[q]? = some f → ∀ z ∈ f.ps, ∃ (p : Nat) (e : Ent), p < q ∧ es[p]? = some e ∧ e.j = z
  mks : ∀ (p : Nat) (e : Ent) (o : Oper), es[p]? = some e → ops[e.j]? = some o → e.io.op.kind = 2 → isMk o.op = true

theorem chkAll_get : ∀ (l before : List Ent), chkAll before l = true → ∀ (p : Nat) (e : Ent), l[p]? = some e → chkAt ((l.take p).reverse ++ before) e = true
  | [], _, _, p, e, h => by simp at h
  | x :: l, before, hc, p, e, h => by
    unfold chkAll at hc
    rw [Bool.and_eq_true] at hc
    cases p with
    | zero => simp at h; subst h; simpa using hc.1
    | succ p =>
      have := chkAll_get l (x :: before) hc.2 p e (by simpa using h)
      simpa using this

theorem segOk_spec {ps : List Nat} : ∀ {B : List Ent}, segOk ps B = true → (∀ x ∈ B, x.io.op.kind ≠ 3) ∨ ∃ (i : Nat) (x : Ent), B[i]? = some x ∧ x.j ∈ ps ∧ ∀ (i' : Nat) (y : Ent), B[i']? = some y → y.io.op.kind = 3 → i ≤ i'
  | [], _ => .inl (by simp)
  | x :: B, h => by
    unfold segOk at h
    rw [Bool.or_eq_true] at h
    by_cases hx : ps.contains x.j = true
    · exact .inr ⟨0, x, by simp, by simpa using hx, fun i' y _ _ => Nat.zero_le _⟩
    · have h := h.resolve_left hx
      rw [Bool.and_eq_true] at h
      have hw : x.io.op.kind ≠ 3 := fun e => by
        have : x.isW = true := by unfold Ent.isW; rw [e]; rfl
        rw [this] at h; simp at h
      rcases segOk_spec h.2 with h1 | ⟨i, y, h1, h2, h3⟩
      · left; intro z hz; rcases List.mem_cons.1 hz with rfl | hz; exact hw; exact h1 z hz
      · right
        refine ⟨i + 1, y, by simpa using h1, h2, fun i' z hz hk => ?_⟩
        cases i' with
        | zero => simp at hz; subst hz; exact absurd hk hw
        | succ i' => have := h3 i' z (by simpa using hz) hk; omega

theorem rev_get {es : List Ent} {p i : Nat} {x : Ent} (hp : p ≤ es.length) (h : (es.take p).reverse[i]? = some x) : i < p ∧ es[p - 1 - i]? = some x := by
  have hl : (es.take p).length = p := by simp; omega
  have hi : i < p := by
    have := (List.getElem?_eq_some_iff.1 h).1
    simp at this; omega
  refine ⟨hi, ?_⟩
  rw [List.getElem?_reverse (by omega), hl, List.getElem?_take_of_lt (by omega)] at h
  exact h
theorem rev_of {es : List Ent} {p q : Nat} {x : Ent} (hp : p ≤ es.length) (hq : q < p) (h : es[q]? = some x) : (es.take p).reverse[p - 1 - q]? = some x := by
  have hl : (es.take p).length = p := by simp; omega
  rw [List.getElem?_reverse (by omega), hl, List.getElem?_take_of_lt (by omega), show p - 1 - (p - 1 - q) = q by omega]
  exact h
theorem rev_mem {es : List Ent} {p q : Nat} {x : Ent} (hp : p ≤ es.length) (hq : q < p) (h : es[q]? = some x) : x ∈ (es.take p).reverse := List.mem_of_getElem? (rev_of hp hq h)
theorem mem_rev {es : List Ent} {p : Nat} {x : Ent} (hp : p ≤ es.length) (h : x ∈ (es.take p).reverse) : ∃ q, q < p ∧ es[q]? = some x := by
  obtain ⟨i, hi, rfl⟩ := List.getElem_of_mem h
  have := rev_get hp (List.getElem?_eq_getElem hi)
  exact ⟨p - 1 - i, by omega, this.2⟩

theorem chk_ok {ops : Array Oper} {es : List Ent} (h : chkEnts ops es = true) : es.length = ops.size ∧ ChkOk ops es := by
  unfold chkEnts at h
  simp only [Bool.and_eq_true] at h
  obtain ⟨⟨⟨⟨h1, h2⟩, h3⟩, h5⟩, h6⟩ := h
  rw [Nat.beq_eq] at h1
  have hle : ∀ {p : Nat} {e : Ent}, es[p]? = some e → p ≤ es.length := fun h => by have := (List.getElem?_eq_some_iff.1 h).1; omega
  have at' : ∀ {p : Nat} {e : Ent}, es[p]? = some e → chkAt (es.take p).reverse e = true := fun {p e} h => by have := chkAll_get es [] h3 p e h; simpa using this
  have parts : ∀ {p : Nat} {e : Ent}, es[p]? = some e →
      ((∀ d, e.io.dst = some d → rdsIn d e.io = false ∧ ∀ x ∈ (es.take p).reverse, x.io.dst ≠ some d ∧ (rdsIn d x.io = true → x.j ∈ e.ps)) ∧
       (∀ x ∈ (es.take p).reverse, ∀ d, x.io.dst = some d → rdsIn d e.io = true → x.j ∈ e.ps) ∧ (∀ x ∈ (es.take p).reverse, x.j ≠ e.j) ∧ segOk e.ps (es.take p).reverse = true ∧
       ∀ z ∈ e.ps, ∃ x ∈ (es.take p).reverse, x.j = z) := fun {p e} h => by
    have := at' h
    unfold chkAt at this
    simp only [Bool.and_eq_true, List.all_eq_true] at this
    obtain ⟨⟨⟨⟨a, b⟩, c⟩, d⟩, f⟩ := this
    refine ⟨fun dd hd => ?_, fun x hx dd hd hr => ?_, fun x hx he => ?_, d, fun z hz => ?_⟩
    · rw [hd] at a
      simp only [Bool.and_eq_true, List.all_eq_true, Bool.not_eq_true', Bool.or_eq_true] at a
      refine ⟨a.1, fun x hx => ⟨fun hxd => ?_, fun hr => ?_⟩⟩
      · have := (a.2 x hx).1
        rw [hxd] at this
        have hb : Nat.beq dd.nat dd.nat = true := by rw [Nat.beq_eq]
        simp [hb] at this
      · rcases (a.2 x hx).2 with h | h
        · rw [hr] at h; cases h
        · simpa using h
    · have := b x hx
      rw [hd] at this
      simp only [Bool.or_eq_true, Bool.not_eq_true'] at this
      rcases this with h | h
      · rw [hr] at h; cases h
      · simpa using h
    · have := c x hx
      rw [he] at this
      have hb : Nat.beq e.j e.j = true := by rw [Nat.beq_eq]
      rw [hb] at this; cases this
    · have := f z hz
      obtain ⟨x, hx, hb⟩ := List.any_eq_true.1 this
      exact ⟨x, hx, by simpa [Nat.beq_eq] using hb⟩
  refine ⟨h1, fun p e h => ?_, fun i hi => ?_, fun p q e f hpq he hf => ?_, fun p q e f d hpq he hf hd => ?_, fun p e d h hd => ((parts h).1 d hd).1, fun p q e f d hpq he hf hd hr => ?_, fun p q e f d hpq he hf hd hr => ?_,
    fun q f h => ?_, fun q f h z hz => ?_, fun p e o h ho hk => ?_⟩
  · have := List.all_eq_true.1 h2 e (List.mem_of_getElem? h)
    exact ltb_iff.1 this
  · have := List.all_eq_true.1 h6 i (by simpa using hi)
    obtain ⟨x, hx, hb⟩ := List.any_eq_true.1 this
    obtain ⟨p, hp, e⟩ := List.getElem_of_mem hx
    exact ⟨p, x, by rw [List.getElem?_eq_getElem hp, e], by simpa [Nat.beq_eq] using hb⟩
  · exact (parts hf).2.2.1 e (rev_mem (hle hf) hpq he)
  · intro hfd; exact (((parts hf).1 d hfd).2 e (rev_mem (hle hf) hpq he)).1 hd
  · exact (((parts hf).1 d hd).2 e (rev_mem (hle hf) hpq he)).2 hr
  · exact (parts hf).2.1 e (rev_mem (hle hf) hpq he) d hd hr
  · rcases segOk_spec (parts h).2.2.2.1 with h' | ⟨i, x, a, b, c⟩
    · exact .inl fun p e hp he => h' e (rev_mem (hle h) hp he)
    · obtain ⟨hi, hx⟩ := rev_get (hle h) a
      refine .inr ⟨q - 1 - i, x, by omega, hx, b, fun y g hy hg hk => ?_⟩
      have := c (q - 1 - y) g (rev_of (hle h) hy hg) hk
      omega
  · obtain ⟨x, hx, e⟩ := (parts h).2.2.2.2 z hz
    obtain ⟨p, hp, hpx⟩ := mem_rev (hle h) hx
    exact ⟨p, x, hp, hpx, e⟩
  · have := List.all_eq_true.1 h5 e (List.mem_of_getElem? h)
    rw [ho, hk] at this
    simp only [Option.all_some] at this
    rw [beqB_eq] at this
    simpa using this

theorem lateOf_cnt {j : Nat} : ∀ (l : List Ent) (q : Nat), (∀ (i : Nat) (f : Ent), i < q → l[i]? = some f → f.io.op.kind = 3 → j ∉ f.ps) → (l.take q).countP (fun e => e.io.op.kind == 3) ≤ lateOf j l
  | [], q, _ => by simp
  | x :: l, q, h => by
    cases q with
    | zero => simp
    | succ q =>
      have ih := lateOf_cnt l q fun i f hi hf hk => h (i + 1) f (by omega) (by simpa using hf) hk
      rw [List.take_succ_cons, List.countP_cons]
      unfold lateOf
      by_cases hk : x.io.op.kind = 3
      · have hw : x.isW = true := by unfold Ent.isW; rw [hk]; rfl
        have hn := h 0 x (by omega) (by simp) hk
        have hc : x.ps.contains j = false := by simpa using hn
        simp only [hw, hc, if_true, if_false, hk, beq_self_eq_true, Bool.false_eq_true]
        omega
      · have hw : x.isW = false := by
          unfold Ent.isW
          cases hb : Nat.beq x.io.op.kind 3 with
          | false => rfl
          | true => rw [Nat.beq_eq] at hb; exact absurd hb hk
        have hb : (x.io.op.kind == 3) = false := by simpa using hk
        simp only [hw, hb, if_false, Bool.false_eq_true, Nat.add_zero]
        exact ih

theorem lateE_get : ∀ (l : List Ent) (p : Nat), (lateE l)[p]? = (l[p]?).map fun e => { e.io with late := if Nat.beq e.io.op.kind 1 then lateOf e.j (l.drop (p + 1)) else 0 }
  | [], p => by simp [lateE]
  | x :: l, p => by
    cases p with
    | zero => simp [lateE]
    | succ p => have := lateE_get l p; simpa [lateE] using this
theorem lateE_length (l : List Ent) : (lateE l).length = l.length := by
  induction l with
  | nil => rfl
  | cons x l ih => simp [lateE, ih]
theorem lateE_drop : ∀ (l : List Ent) (p : Nat), (lateE l).drop p = lateE (l.drop p)
  | [], p => by simp [lateE]
  | x :: l, p => by
    cases p with
    | zero => simp
    | succ p => have := lateE_drop l p; simpa [lateE] using this
theorem cnt_lateE : ∀ (l : List Ent) (q : Nat), cnt (lateE l) q = (l.take q).countP (fun e => e.io.op.kind == 3)
  | [], q => by simp [lateE, cnt]
  | x :: l, q => by
    cases q with
    | zero => simp [cnt]
    | succ q =>
      rw [show lateE (x :: l) = { x.io with late := if Nat.beq x.io.op.kind 1 then lateOf x.j l else 0 } :: lateE l from rfl, cnt_cons, cnt_lateE l q, List.take_succ_cons, List.countP_cons]
      by_cases hk : x.io.op.kind = 3 <;> simp [hk]
end Go.Ab

/- A region that draws its order: every order of it ends as the turned one. -/
namespace Go.Ab
section
variable {P : Program} {cx : Cx} {σ : Nat → Int} {S : Sy} {call : Nat → List V → H → K → R} {round : Pos → List V → H → K → R} {loop : IC → T → H → (T → H → R) → (Option Nat → T → H → R) → R}

structure Rg (cx : Cx) (S : Sy) (E : Env) (nt : Nat) (ops : Array Oper) (es : List Ent) (t : T) (h : H) (k : T → H → R) (r : V × H) (ts : Nat → T) (hs : Nat → H) (vs : Nat → V) (wt : Nat → Bool) : Prop where
  len : es.length = ops.size
  chk : ChkOk ops es
  ent : ∀ (p : Nat) (e : Ent), es[p]? = some e → ∃ o, ops[e.j]? = some o ∧ e.ps = predsOf o ∧ e.io = compOpr cx nt ops 0 o
  can : Can S E (lateE es) [] t h k r ts hs vs wt

variable {nt : Nat} {ops : Array Oper} {es : List Ent} {t : T} {h : H} {k : T → H → R} {r : V × H} {ts : Nat → T} {hs : Nat → H} {vs : Nat → V} {wt : Nat → Bool}

theorem Rg.get {E : Env} (_ : Rg cx S E nt ops es t h k r ts hs vs wt) {p : Nat} {e : Ent} (he : es[p]? = some e) :
    ∃ o, (lateE es)[p]? = some o ∧ o.dst = e.io.dst ∧ o.guard = e.io.guard ∧ o.op = e.io.op ∧ o.late = (if Nat.beq e.io.op.kind 1 then lateOf e.j (es.drop (p + 1)) else 0) :=
  ⟨{ e.io with late := if Nat.beq e.io.op.kind 1 then lateOf e.j (es.drop (p + 1)) else 0 }, by rw [lateE_get, he]; rfl, rfl, rfl, rfl, rfl⟩

theorem Rg.good {E : Env} (hE : E = .mk call round loop) (R0 : Rg cx S E nt ops es t h k r ts hs vs wt) {p : Nat} {e : Ent} (he : es[p]? = some e) :
    ∃ oo op g d, ops[e.j]? = some oo ∧ e.io = ⟨d, g, 0, op⟩ ∧ compOp cx oo.op = some op ∧ compGuard ops oo.guard = some g ∧ DstOk nt oo.dst d ∧ e.ps = predsOf oo := by
  obtain ⟨oo, h1, h2, h3⟩ := R0.ent p e he
  rcases compOpr_eq (cx := cx) (nt := nt) (ops := ops) (late := 0) (o := oo) with ⟨op, g, d, a, b, c, f⟩ | hb
  · exact ⟨oo, op, g, d, h1, h3.trans a, b, c, f, h2⟩
  · exfalso
    obtain ⟨o, ho, o1, o2, o3, o4⟩ := R0.get he
    rw [h3, hb] at o2 o3
    cases hw : wt p with
    | false =>
      have := (R0.can.no p o ho hw).2.2 none (some r)
      rw [o2] at this
      cases (show (some r : R) = none from this)
    | true =>
      have := (R0.can.yes p o ho hw).2 (fun v h => some (v, h))
      rw [o3] at this
      cases (show (none : R) = _ from this)

/-- no writer from one place up to another -/
def NoW (es : List Ent) (a b : Nat) : Prop := ∀ (i : Nat) (e : Ent), a ≤ i → i < b → es[i]? = some e → e.io.op.kind ≠ 3

theorem Rg.chain {E : Env} (R0 : Rg cx S E nt ops es t h k r ts hs vs wt) {a : Nat} : ∀ (b : Nat), a ≤ b → b ≤ es.length → NoW es a b →
    (∀ (ι : Inj) (w : World), Rel cx σ ι (hs a) w → Rel cx σ ι (hs b) w) ∧ (∀ (ι0 ι : Inj) (h0 : H) (w0 w : World), Ext ι0 ι h0 (hs a) w0 w → Ext ι0 ι h0 (hs b) w0 w) ∧ (hs a).nx.toNat ≤ (hs b).nx.toNat ∧ HLe (hs a) (hs b) := by
  intro b
  induction b with
  | zero => intro h1 _ _; rw [Nat.le_zero.1 h1]; exact ⟨fun _ _ x => x, fun _ _ _ _ _ x => x, Nat.le_refl _, HLe.refl _⟩
  | succ b ih =>
    intro h1 h2 hn
    by_cases e : a = b + 1
    · rw [e]; exact ⟨fun _ _ x => x, fun _ _ _ _ _ x => x, Nat.le_refl _, HLe.refl _⟩
    · obtain ⟨i1, i2, i3, i4⟩ := ih (by omega) (by omega) fun i e h3 h4 => hn i e h3 (by omega)
      have hlt : b < es.length := by omega
      have he : es[b]? = some es[b] := List.getElem?_eq_getElem hlt
      obtain ⟨o, ho, o1, o2, o3, o4⟩ := R0.get he
      have hk3 := hn b _ (by omega) (by omega) he
      have same : hs (b + 1) = hs b → _ := fun e => (⟨fun ι w x => by rw [e]; exact i1 ι w x, fun ι0 ι h0 w0 w x => by rw [e]; exact i2 ι0 ι h0 w0 w x, by rw [e]; exact i3, by rw [e]; exact i4⟩ :
        (∀ (ι : Inj) (w : World), Rel cx σ ι (hs a) w → Rel cx σ ι (hs (b + 1)) w) ∧ (∀ (ι0 ι : Inj) (h0 : H) (w0 w : World), Ext ι0 ι h0 (hs a) w0 w → Ext ι0 ι h0 (hs (b + 1)) w0 w) ∧ (hs a).nx.toNat ≤ (hs (b + 1)).nx.toNat ∧ HLe (hs a) (hs (b + 1)))
      cases hw : wt b with
      | false => exact same (R0.can.no b o ho hw).2.1
      | true =>
        rcases kind_le es[b].io.op with hk | hk | hk | hk
        · exact same (R0.can.k01 b o ho hw (by rw [o3]; exact .inl hk))
        · exact same (R0.can.k01 b o ho hw (by rw [o3]; exact .inr hk))
        · obtain ⟨ob, e1, e2⟩ := R0.can.k2 b o ho hw (by rw [o3]; exact hk)
          rw [e1]
          refine ⟨fun ι w x => (i1 ι w x).more ob, fun ι0 ι h0 w0 w x => (i2 ι0 ι h0 w0 w x).more ob, ?_, i4.trans (push_le e2 ob)⟩
          rw [H.nx_push, Pos.toNat_succ]; omega
        · exact absurd hk hk3

/-- blocks made in a row, no writer between: their places, and what lies there -/
theorem Rg.mkAt {E : Env} (R0 : Rg cx S E nt ops es t h k r ts hs vs wt) {q F : Nat} {g : Ent} (hg : es[q]? = some g) (hw : wt q = true) (hk : g.io.op.kind = 2) (hqF : q < F) (hF : F ≤ es.length) (hn : NoW es (q + 1) F) :
    (hs q).nx.toNat < (hs F).nx.toNat ∧ ∃ ob, hs (q + 1) = (hs q).push ob ∧ (hs F).get (hs q).nx = some ob := by
  obtain ⟨o, ho, o1, o2, o3, o4⟩ := R0.get hg
  obtain ⟨ob, e1, e2⟩ := R0.can.k2 q o ho hw (by rw [o3]; exact hk)
  obtain ⟨_, _, d3, d4⟩ := R0.chain (σ := fun _ => 0) (a := q + 1) F (by omega) hF hn
  refine ⟨?_, ob, e1, d4 _ _ (by rw [e1]; exact H.get_push_same _ _)⟩
  rw [e1, H.nx_push, Pos.toNat_succ] at d3; omega

theorem next_writer (es : List Ent) : ∀ (n a : Nat), a + n = es.length → ∃ F, a ≤ F ∧ F ≤ es.length ∧ NoW es a F ∧ (F < es.length → ∃ e, es[F]? = some e ∧ e.io.op.kind = 3) := by
  intro n
  induction n with
  | zero => intro a h; exact ⟨a, Nat.le_refl _, by omega, fun i e h1 h2 => by omega, fun h => by omega⟩
  | succ n ih =>
    intro a h
    have he : es[a]? = some es[a] := List.getElem?_eq_getElem (by omega)
    by_cases hk : es[a].io.op.kind = 3
    · exact ⟨a, Nat.le_refl _, by omega, fun i e h1 h2 => by omega, fun _ => ⟨_, he, hk⟩⟩
    · obtain ⟨F, h1, h2, h3, h4⟩ := ih (a + 1) (by omega)
      refine ⟨F, by omega, h2, fun i e hi1 hi2 hie => ?_, h4⟩
      by_cases e1 : i = a
      · subst e1; rw [he] at hie; cases hie; exact hk
      · exact h3 i e (by omega) hi2 hie

theorem Rg.tsGot {E : Env} (R0 : Rg cx S E nt ops es t h k r ts hs vs wt) : ∀ (p : Nat), p ≤ es.length → (∀ (q : Nat) (e : Ent) (d : Pos), q < p → es[q]? = some e → e.io.dst = some d → (ts p).get d = some (vs q)) ∧
    ∀ x, (∀ (q : Nat) (e : Ent), q < p → es[q]? = some e → e.io.dst ≠ some x) → (ts p).get x = t.get x := by
  intro p
  induction p with
  | zero => intro _; exact ⟨fun q e d h => by omega, fun x _ => by rw [R0.can.t0]⟩
  | succ p ih =>
    intro hp
    obtain ⟨i1, i2⟩ := ih (by omega)
    have he : es[p]? = some es[p] := List.getElem?_eq_getElem (by omega)
    obtain ⟨o, ho, o1, o2, o3, o4⟩ := R0.get he
    have hts := R0.can.tst p o ho
    rw [o1] at hts
    refine ⟨fun q e d hq hqe hd => ?_, fun x hx => ?_⟩
    · by_cases e1 : q = p
      · subst e1; rw [he] at hqe; cases hqe; rw [hts, hd]; exact Tr.get_put_same _ _ _
      · rw [hts]
        cases hd' : es[p].io.dst with
        | none => exact i1 q e d (by omega) hqe hd
        | some d' =>
          have hne : d ≠ d' := fun e2 => R0.chk.dne q p e _ d (by omega) hqe he hd (by rw [hd', e2])
          show (Tr.put d' (vs p) (ts p)).get d = _
          rw [Tr.get_put_ne _ _ _ _ hne]; exact i1 q e d (by omega) hqe hd
    · rw [hts]
      have hx' := i2 x fun q e hq => hx q e (by omega)
      cases hd' : es[p].io.dst with
      | none => exact hx'
      | some d' =>
        have hne : x ≠ d' := fun e2 => hx p _ (by omega) he (by rw [hd', e2])
        show (Tr.put d' (vs p) (ts p)).get x = _
        rw [Tr.get_put_ne _ _ _ _ hne]; exact hx'

def Dn (listed : Array Bool) (j : Nat) : Prop := listed[j]? = some true
theorem Dn.set {listed : Array Bool} {i j : Nat} (hi : i < listed.size) : Dn (listed.setIfInBounds i true) j ↔ j = i ∨ Dn listed j := by
  unfold Dn
  rw [Array.getElem?_setIfInBounds]
  by_cases e : i = j
  · subst e; simp [hi]
  · simp [e, Ne.symm e]

/-- a block that is made, but not yet in the memory itself -/
structure MkAt (ι : Inj) (h hp hp1 hF : H) : Prop where
  no : ι hp.nx = none
  ge : h.nx.toNat ≤ hp.nx.toNat
  lt : hp.nx.toNat < hF.nx.toNat
  get : ∃ ob, hp1 = hp.push ob ∧ hF.get hp.nx = some ob

structure St (cx : Cx) (σ : Nat → Int) (nt : Nat) (ops : Array Oper) (es : List Ent) (t : T) (h : H) (hs : Nat → H) (vs : Nat → V) (wt : Nat → Bool) (ι0 : Inj) (w0 : World) (df : List Deferred)
    (listed : Array Bool) (a : Act) (w : World) (T0 : T) (ι : Inj) (F : Nat) : Prop where
  sz : listed.size = ops.size
  cl : ∀ (p : Nat) (e : Ent), es[p]? = some e → Dn listed e.j → ∀ z ∈ e.ps, Dn listed z
  tm : TRel σ ι T0 a.tmps
  tsz : a.tmps.size = nt
  df : a.defers = df
  got : ∀ (p : Nat) (e : Ent) (d : Pos), es[p]? = some e → Dn listed e.j → e.io.dst = some d → T0.get d = some (vs p)
  old : ∀ x, (∀ (p : Nat) (e : Ent), es[p]? = some e → Dn listed e.j → e.io.dst ≠ some x) → T0.get x = t.get x
  Fm : F ≤ es.length
  Fw : F < es.length → ∃ e, es[F]? = some e ∧ e.io.op.kind = 3 ∧ ¬ Dn listed e.j
  below : ∀ (p : Nat) (e : Ent), es[p]? = some e → Dn listed e.j → p < F
  wdone : ∀ (p : Nat) (e : Ent), es[p]? = some e → p < F → e.io.op.kind = 3 → Dn listed e.j
  rel : Rel cx σ ι (hs F) w
  ext : Ext ι0 ι h (hs F) w0 w
  mks : ∀ (p : Nat) (e : Ent), es[p]? = some e → p < F → wt p = true → e.io.op.kind = 2 → ¬ Dn listed e.j → MkAt ι h (hs p) (hs (p + 1)) (hs F)
  mkd : ∀ (p q : Nat) (e g : Ent), es[p]? = some e → es[q]? = some g → p < q → q < F → wt p = true → wt q = true → e.io.op.kind = 2 → g.io.op.kind = 2 → ¬ Dn listed e.j → ¬ Dn listed g.j → (hs p).nx.toNat < (hs q).nx.toNat

variable {ι0 : Inj} {w0 : World} {df : List Deferred} {listed : Array Bool} {a : Act} {w : World} {T0 : T} {ι : Inj} {F : Nat}

/-- what waits for nothing has no writer left ahead -/
theorem St.ahead {E : Env} (R0 : Rg cx S E nt ops es t h k r ts hs vs wt) (st : St cx σ nt ops es t h hs vs wt ι0 w0 df listed a w T0 ι F) : ∀ (p : Nat) (e : Ent), es[p]? = some e → (∀ z ∈ e.ps, Dn listed z) →
    ∀ (y : Nat) (g : Ent), y < p → es[y]? = some g → g.io.op.kind = 3 → Dn listed g.j := by
  intro p
  induction p using Nat.strongRecOn with
  | _ p ih =>
    intro e he hps y g hy hg hk
    rcases R0.chk.seg p e he with hn | ⟨s, x, hs1, hx, hxj, hlast⟩
    · exact absurd hk (hn y g hy hg)
    · have hys := hlast y g hy hg hk
      have hxd := hps _ hxj
      by_cases e1 : y = s
      · subst e1; rw [hg] at hx; cases hx; exact hxd
      · exact ih s hs1 x hx (st.cl s x hx hxd) y g (by omega) hg hk

theorem St.agree {E : Env} (R0 : Rg cx S E nt ops es t h k r ts hs vs wt) (st : St cx σ nt ops es t h hs vs wt ι0 w0 df listed a w T0 ι F) {p : Nat} {e : Ent} (he : es[p]? = some e) (hnD : ¬ Dn listed e.j) (hps : ∀ z ∈ e.ps, Dn listed z)
    {x : Pos} (hx : rdsIn x e.io = true) : T0.get x = (ts p).get x := by
  have hpl : p ≤ es.length := by have := (List.getElem?_eq_some_iff.1 he).1; omega
  obtain ⟨g1, g2⟩ := R0.tsGot p hpl
  by_cases hq : ∃ (q : Nat) (f : Ent), es[q]? = some f ∧ f.io.dst = some x
  · obtain ⟨q, f, hf, hd⟩ := hq
    have uniq : ∀ (q' : Nat) (f' : Ent), es[q']? = some f' → f'.io.dst = some x → q' = q := fun q' f' hf' hd' => by
      rcases Nat.lt_trichotomy q q' with h1 | h1 | h1
      · exact absurd hd' (R0.chk.dne q q' f f' x h1 hf hf' hd)
      · exact h1.symm
      · exact absurd hd (R0.chk.dne q' q f' f x h1 hf' hf hd')
    rcases Nat.lt_trichotomy q p with h1 | h1 | h1
    · have hD := hps _ (R0.chk.wr q p f e x h1 hf he hd hx)
      rw [st.got q f x hf hD hd, g1 q f x h1 hf hd]
    · subst h1; rw [he] at hf; cases hf
      rw [R0.chk.own q e x he hd] at hx; cases hx
    · have hj := R0.chk.rw p q e f x h1 he hf hd hx
      rw [st.old x fun q' f' hf' hD hd' => ?_, g2 x fun q' f' hq' hf' hd' => ?_]
      · have := uniq q' f' hf' hd'; omega
      · have := uniq q' f' hf' hd'; subst this; rw [hf] at hf'; cases hf'
        exact hnD (st.cl q' f hf hD _ hj)
  · rw [st.old x fun q' f' hf' _ hd' => hq ⟨q', f', hf', hd'⟩, g2 x fun q' f' _ hf' hd' => hq ⟨q', f', hf', hd'⟩]

theorem ev_get {n : Pos} {t t' : T} (h : t.get n = t'.get n) : (Opd.t n).ev t = (Opd.t n).ev t' := by
  show Option.rec (motive := fun _ => V) (.tup []) (fun v => v) (t.get n) = Option.rec (motive := fun _ => V) (.tup []) (fun v => v) (t'.get n)
  rw [h]
theorem agree_opds {io : IOpr} {t t' : T} (h : ∀ x, rdsIn x io = true → t.get x = t'.get x) : ∀ y ∈ io.op.opds, y.ev t = y.ev t' := by
  intro y hy
  cases y with
  | c v => rfl
  | t n =>
    refine ev_get (h n ?_)
    unfold rdsIn
    rw [Bool.or_eq_true]
    left
    exact List.any_eq_true.2 ⟨_, hy, by show Nat.beq n.nat n.nat = true; rw [Nat.beq_eq]⟩
theorem agree_guard {io : IOpr} {t t' : T} (h : ∀ x, rdsIn x io = true → t.get x = t'.get x) (a b : R) : wantK io.guard t a b = wantK io.guard t' a b := by
  cases hg : io.guard with
  | none => rfl
  | some p =>
    obtain ⟨d, w⟩ := p
    have : (Opd.t d).ev t = (Opd.t d).ev t' := ev_get (h d (by
      unfold rdsIn
      rw [Bool.or_eq_true]
      right
      rw [hg]; show Nat.beq d.nat d.nat = true; rw [Nat.beq_eq]))
    show V.on ((Opd.t d).ev t) _ _ _ _ _ _ _ _ _ = V.on ((Opd.t d).ev t') _ _ _ _ _ _ _ _ _
    rw [this]

/-- one more is done -/
theorem St.add {E : Env} (R0 : Rg cx S E nt ops es t h k r ts hs vs wt) (st : St cx σ nt ops es t h hs vs wt ι0 w0 df listed a w T0 ι F) {p : Nat} {e : Ent} (he : es[p]? = some e) (hps : ∀ z ∈ e.ps, Dn listed z)
    {a' : Act} {w' : World} {ι' : Inj} {F' : Nat} (htm : TRel σ ι' (tset e.io.dst (vs p) T0) a'.tmps) (htsz : a'.tmps.size = nt) (hdf : a'.defers = df) (hFm : F' ≤ es.length)
    (hFw : F' < es.length → ∃ g, es[F']? = some g ∧ g.io.op.kind = 3 ∧ ¬ Dn listed g.j ∧ F' ≠ p) (hbel : ∀ (q : Nat) (g : Ent), es[q]? = some g → Dn listed g.j ∨ q = p → q < F')
    (hwd : ∀ (q : Nat) (g : Ent), es[q]? = some g → q < F' → g.io.op.kind = 3 → q = p ∨ Dn listed g.j) (hrel : Rel cx σ ι' (hs F') w') (hext : Ext ι0 ι' h (hs F') w0 w')
    (hmk : ∀ (q : Nat) (g : Ent), es[q]? = some g → q < F' → wt q = true → g.io.op.kind = 2 → ¬ Dn listed g.j → q ≠ p → MkAt ι' h (hs q) (hs (q + 1)) (hs F'))
    (hmkd : ∀ (x q : Nat) (f g : Ent), es[x]? = some f → es[q]? = some g → x < q → q < F' → wt x = true → wt q = true → f.io.op.kind = 2 → g.io.op.kind = 2 → ¬ Dn listed f.j → ¬ Dn listed g.j → x ≠ p → q ≠ p → (hs x).nx.toNat < (hs q).nx.toNat) :
    St cx σ nt ops es t h hs vs wt ι0 w0 df (listed.setIfInBounds e.j true) a' w' (tset e.io.dst (vs p) T0) ι' F' := by
  have hlt : e.j < listed.size := by rw [st.sz]; exact R0.chk.lt p e he
  have key : ∀ (q : Nat) (g : Ent), es[q]? = some g → (Dn (listed.setIfInBounds e.j true) g.j ↔ q = p ∨ Dn listed g.j) := fun q g hg => by
    rw [Dn.set hlt]
    constructor
    · rintro (e1 | e1)
      · left
        rcases Nat.lt_trichotomy q p with h1 | h1 | h1
        · exact absurd e1 (R0.chk.jne q p g e h1 hg he)
        · exact h1
        · exact absurd e1.symm (R0.chk.jne p q e g h1 he hg)
      · exact .inr e1
    · rintro (rfl | e1)
      · rw [he] at hg; cases hg; exact .inl rfl
      · exact .inr e1
  refine ⟨by simp [st.sz], fun q g hg hD z hz => ?_, htm, htsz, hdf, fun q g d hg hD hd => ?_, fun x hx => ?_, hFm, fun hF => ?_, fun q g hg hD => ?_, fun q g hg hq hk => ?_, hrel, hext, fun q g hg hq hw hk hD => ?_, fun x q f g hf hg hx hq hwx hwq hkx hkq hDx hDq => ?_⟩
  · rw [Dn.set hlt]
    rcases (key q g hg).1 hD with rfl | h1
    · rw [he] at hg; cases hg; exact .inr (hps z hz)
    · exact .inr (st.cl q g hg h1 z hz)
  · rcases (key q g hg).1 hD with rfl | h1
    · rw [he] at hg; cases hg; rw [hd]; exact Tr.get_put_same _ _ _
    · have h2 := st.got q g d hg h1 hd
      cases hd' : e.io.dst with
      | none => exact h2
      | some d' =>
        by_cases e2 : q = p
        · subst e2; rw [he] at hg; cases hg; rw [hd] at hd'; cases hd'; exact Tr.get_put_same _ _ _
        · have hne : d ≠ d' := fun e3 => by
            subst e3
            rcases Nat.lt_or_gt_of_ne e2 with h3 | h3
            · exact R0.chk.dne q p g e d h3 hg he hd hd'
            · exact R0.chk.dne p q e g d h3 he hg hd' hd
          show (Tr.put d' (vs p) T0).get d = _
          rw [Tr.get_put_ne _ _ _ _ hne]; exact h2
  · have h1 := st.old x fun q g hg hD => hx q g hg ((key q g hg).2 (.inr hD))
    cases hd' : e.io.dst with
    | none => exact h1
    | some d' =>
      have hne : x ≠ d' := fun e3 => hx p e he ((key p e he).2 (.inl rfl)) (by rw [hd', e3])
      show (Tr.put d' (vs p) T0).get x = _
      rw [Tr.get_put_ne _ _ _ _ hne]; exact h1
  · obtain ⟨g, h1, h2, h3, h4⟩ := hFw hF
    exact ⟨g, h1, h2, fun hD => by rcases (key F' g h1).1 hD with h5 | h5; exact h4 h5; exact h3 h5⟩
  · rcases (key q g hg).1 hD with h1 | h1
    · exact hbel q g hg (.inr h1)
    · exact hbel q g hg (.inl h1)
  · exact (key q g hg).2 (hwd q g hg hq hk)
  · exact hmk q g hg hq hw hk (fun h1 => hD ((key q g hg).2 (.inr h1))) (fun h1 => hD ((key q g hg).2 (.inl h1)))
  · exact hmkd x q f g hf hg hx hq hwx hwq hkx hkq (fun h1 => hDx ((key x f hf).2 (.inr h1))) (fun h1 => hDq ((key q g hg).2 (.inr h1))) (fun h1 => hDx ((key x f hf).2 (.inl h1))) (fun h1 => hDq ((key q g hg).2 (.inl h1)))
end
end Go.Ab

/- A region that draws its order: one step of an order; the whole. -/
namespace Go.Ab
section
variable {P : Program} {cx : Cx} {σ : Nat → Int} {S : Sy} {call : Nat → List V → H → K → R} {round : Pos → List V → H → K → R} {loop : IC → T → H → (T → H → R) → (Option Nat → T → H → R) → R}
variable {nt : Nat} {ops : Array Oper} {es : List Ent} {t : T} {h : H} {k : T → H → R} {r : V × H} {ts : Nat → T} {hs : Nat → H} {vs : Nat → V} {wt : Nat → Bool}
variable {ι0 : Inj} {w0 : World} {df : List Deferred} {listed : Array Bool} {a : Act} {w : World} {T0 : T} {ι : Inj} {F : Nat}

theorem Rg.late {E : Env} (_ : Rg cx S E nt ops es t h k r ts hs vs wt) {p F : Nat} {e : Ent} (_ : es[p]? = some e) (hpF : p + 1 ≤ F)
    (hn : ∀ (q : Nat) (g : Ent), p < q → q < F → es[q]? = some g → g.io.op.kind = 3 → e.j ∉ g.ps) :
    ((es.drop (p + 1)).take (F - (p + 1))).countP (fun e => e.io.op.kind == 3) ≤ lateOf e.j (es.drop (p + 1)) :=
  lateOf_cnt _ _ fun i f hi hf hk => hn (p + 1 + i) f (by omega) (by omega) (by simpa using hf) hk

theorem St.step (hS : SyOk σ P S) (hy : Hyp P cx) (hE : EnvNat call round loop) (hok : EnvOk P cx σ call round) (R0 : Rg cx S (.mk call round loop) nt ops es t h k r ts hs vs wt)
    (st : St cx σ nt ops es t h hs vs wt ι0 w0 df listed a w T0 ι F) {i : Nat} (hi : i ∈ Region.ready .any ops listed) {ro : Option Nat} {K : Act → World → Prop} {Q : Exit → Act → World → Prop}
    (hK : ∀ a' w' T' ι' F', St cx σ nt ops es t h hs vs wt ι0 w0 df (listed.setIfInBounds i true) a' w' T' ι' F' → K a' w') : wpOpIn (Fz ro) 0 P ops Q i K a w := by
  unfold Region.ready at hi
  rw [List.mem_filter] at hi
  obtain ⟨hi1, hi2⟩ := hi
  have hi1 : i < ops.size := by simpa using hi1
  obtain ⟨p, e, he, rfl⟩ := R0.chk.surj i hi1
  obtain ⟨oo, op, g, d, hoo, hio, hc, hg, hd, hpsq⟩ := R0.good rfl he
  rw [Bool.and_eq_true, hoo] at hi2
  have hlt : e.j < listed.size := by rw [st.sz]; exact hi1
  have hnD : ¬ Dn listed e.j := fun hD => by
    have := hi2.1
    unfold Dn at hD
    rw [Array.getD_eq_getD_getElem?, hD] at this
    cases this
  have hps : ∀ z ∈ e.ps, Dn listed z := fun z hz => by
    rw [hpsq] at hz
    unfold predsOf at hz
    rw [List.mem_map] at hz
    obtain ⟨ed, hed, rfl⟩ := hz
    rw [List.mem_filter] at hed
    have := hi2.2
    simp only [Option.map_some, Option.getD_some] at this
    rw [← Array.all_toList, List.all_eq_true] at this
    have := this ed hed.1
    rw [hed.2] at this
    simp only [Bool.not_true, Bool.false_or] at this
    unfold Dn
    rw [Array.getD_eq_getD_getElem?] at this
    cases hx : listed[ed.on]? with
    | none => rw [hx] at this; cases this
    | some b => rw [hx] at this; simp only [Option.getD_some] at this; rw [this]
  have hahead := st.ahead R0 p e he hps
  have hpl : p < es.length := (List.getElem?_eq_some_iff.1 he).1
  have hpF : p ≤ F := by
    refine Nat.le_of_not_lt fun hlt => ?_
    obtain ⟨g', g1, g2, g3⟩ := st.Fw (by omega)
    exact g3 (hahead F g' hlt g1 g2)
  have hag : ∀ x, rdsIn x e.io = true → T0.get x = (ts p).get x := fun x hx => st.agree R0 he hnD hps hx
  obtain ⟨o, ho, o1, o2, o3, o4⟩ := R0.get he
  have hop : e.io.op = op := by rw [hio]
  have hgd : e.io.guard = g := by rw [hio]
  have hdd : e.io.dst = d := by rw [hio]
  have hexec : ∀ H' k', exec S (.mk call round loop) op T0 H' k' = exec S (.mk call round loop) op (ts p) H' k' := fun H' k' => exec_congr (by rw [← hop]; exact agree_opds hag) H' k'
  have hwant : ∀ x y, wantK g T0 x y = wantK g (ts p) x y := fun x y => by rw [← hgd]; exact agree_guard hag x y
  -- where the next writer stands, once this one is done
  have fin : ∀ (a' : Act) (w' : World) (ι' : Inj), TRel σ ι' (tset d (vs p) T0) a'.tmps → a'.tmps.size = nt → a'.defers = df →
      (p < F → Rel cx σ ι' (hs F) w' ∧ Ext ι0 ι' h (hs F) w0 w' ∧ ∀ (q : Nat) (g : Ent), es[q]? = some g → q < F → wt q = true → g.io.op.kind = 2 → ¬ Dn listed g.j → q ≠ p → ι' (hs q).nx = none) →
      (p = F → Rel cx σ ι' (hs (p + 1)) w' ∧ Ext ι0 ι' h (hs (p + 1)) w0 w' ∧ (hs F).nx.toNat ≤ (hs (p + 1)).nx.toNat ∧
        ∀ (b : Pos), b.toNat < (hs F).nx.toNat → ι b = none → ι' b = none ∧ (hs (p + 1)).get b = (hs F).get b) → K a' w' := by
    intro a' w' ι' h1 h2 h3 h4 h5
    by_cases hlt : p < F
    · obtain ⟨h6, h7, h8⟩ := h4 hlt
      refine hK a' w' (tset d (vs p) T0) ι' F ?_
      have := st.add R0 he hps (a' := a') (w' := w') (ι' := ι') (F' := F) (by rw [hdd]; exact h1) h2 h3 st.Fm (fun hF => ?_) (fun q g hq hD => ?_) (fun q g hq hqF hk => .inr (st.wdone q g hq hqF hk)) h6 h7
        (fun q g hq hqF hw hk hD hne => { st.mks q g hq hqF hw hk hD with no := h8 q g hq hqF hw hk hD hne })
        (fun x q f g hf hg hx hq hwx hwq hkx hkq hDx hDq _ _ => st.mkd x q f g hf hg hx hq hwx hwq hkx hkq hDx hDq)
      · rw [hdd] at this; exact this
      · obtain ⟨g', a1, a2, a3⟩ := st.Fw hF; exact ⟨g', a1, a2, a3, by omega⟩
      · rcases hD with hD | rfl
        · exact st.below q g hq hD
        · exact hlt
    · have hpe : p = F := by omega
      obtain ⟨h6, h7, h8, h9⟩ := h5 hpe
      obtain ⟨F', n1, n2, n3, n4⟩ := next_writer es (es.length - (p + 1)) (p + 1) (by omega)
      obtain ⟨c1, c2, c3, c4⟩ := R0.chain (σ := σ) F' n1 n2 n3
      have past : ∀ q, p < q → q < F' → (hs (p + 1)).nx.toNat ≤ (hs q).nx.toNat := fun q hq hqF => by
        obtain ⟨d1, d2, d3, d4⟩ := R0.chain (σ := σ) (a := p + 1) q (by omega) (by omega) fun i e' x1 x2 x3 => n3 i e' x1 (by omega) x3
        exact d3
      refine hK a' w' (tset d (vs p) T0) ι' F' ?_
      have := st.add R0 he hps (a' := a') (w' := w') (ι' := ι') (F' := F') (by rw [hdd]; exact h1) h2 h3 n2 (fun hF => ?_) (fun q g hq hD => ?_) (fun q g hq hqF hk => ?_) (c1 ι' w' h6) (c2 ι0 ι' h w0 w' h7)
        (fun q g hq hqF hw hk hD hne => ?_) (fun x q f g hf hg hx hq hwx hwq hkx hkq hDx hDq hnx hnq => ?_)
      · rw [hdd] at this; exact this
      · obtain ⟨g', a1, a2⟩ := n4 hF
        exact ⟨g', a1, a2, fun hD => by have := st.below F' g' a1 hD; omega, by omega⟩
      · rcases hD with hD | rfl
        · have := st.below q g hq hD; omega
        · omega
      · by_cases e1 : q = p
        · exact .inl e1
        · by_cases e2 : q < p
          · exact .inr (st.wdone q g hq (by omega) hk)
          · exact absurd hk (n3 q g (by omega) hqF hq)
      · by_cases e2 : q < p
        · have m := st.mks q g hq (by omega) hw hk hD
          obtain ⟨x1, x2⟩ := h9 _ m.lt m.no
          obtain ⟨ob, y1, y2⟩ := m.get
          exact ⟨x1, m.ge, by have := m.lt; omega, ob, y1, c4 _ _ (x2.trans y2)⟩
        · have hle := past q (by omega) hqF
          obtain ⟨y1, y2⟩ := R0.mkAt hq hw hk hqF n2 fun i e' x1 x2 x3 => n3 i e' (by omega) x2 x3
          refine ⟨?_, by have := h7.nx; omega, y1, y2⟩
          cases hx : ι' (hs q).nx with
          | none => rfl
          | some l => have := (h6.bound _ l hx).1; omega
      · by_cases e2 : q < p
        · exact st.mkd x q f g hf hg hx (by omega) hwx hwq hkx hkq hDx hDq
        · have hle := past q (by omega) hq
          by_cases e3 : x < p
          · have := (st.mks x f hf (by omega) hwx hkx hDx).lt; omega
          · exact (R0.mkAt hf hwx hkx hx (by omega) fun i e' x1 x2 x3 => n3 i e' (by omega) (by omega) x3).1
  unfold wpOpIn
  simp only [hoo]
  rcases wantK_spec (σ := σ) (ops := ops) (o := oo) rfl hg T0 none (some r) with ⟨ew, hw⟩ | ⟨ew, hw⟩
  · -- wanted
    have hwt : wt p = true := by
      cases hwt : wt p with
      | true => rfl
      | false =>
        have := (R0.can.no p o ho hwt).2.2 none (some r)
        rw [o2, hgd, ← hwant, ew] at this; cases this
    simp only [hw ι a.tmps st.tm, if_true]
    have hyes := (R0.can.yes p o ho hwt).2
    rw [o3, hop] at hyes
    have oper : ∀ (H' H'' : H), exec S (.mk call round loop) op T0 H' (fun v h => some (v, h)) = some (vs p, H'') → Sim cx σ P oo T0 H' (vs p) H'' := fun H' H'' hx => by
      obtain ⟨v, h', e1, e2⟩ := op_sim hS hy rfl hok hc hx
      simp at e1
      obtain ⟨rfl, rfl⟩ := e1
      exact e2
    have putok : ∀ (v' : Value) (ι' : Inj), Le ι ι' → VR σ ι' (vs p) v' → TRel σ ι' (tset d (vs p) T0) (a.put oo.dst v').tmps ∧ (a.put oo.dst v').tmps.size = nt ∧ (a.put oo.dst v').defers = df := fun v' ι' hle hv => by
      obtain ⟨p1, p2⟩ := (st.tm.mono hle).put st.tsz hd hv
      exact ⟨p1, p2, by rw [← st.df]; cases oo.dst <;> rfl⟩
    -- a run that leaves the abstract memory as it is
    have same : p < F → exec S (.mk call round loop) op T0 (hs F) (fun v h => some (v, h)) = some (vs p, hs F) → oo.wpIn (Fz ro) 0 P a w K Q := fun hlt hx => by
      refine oper _ _ hx ro ι a w K Q st.rel st.tm.opds fun v' w' ι' hv hr hext => ?_
      obtain ⟨p1, p2, p3⟩ := putok v' ι' hext.le hv
      refine fin _ w' ι' p1 p2 p3 (fun _ => ⟨hr, st.ext.trans hext, fun q g' hq hqF hwq hk hD hne => ?_⟩) (fun e1 => by omega)
      have m := st.mks q g' hq hqF hwq hk hD
      cases hx : ι' (hs q).nx with
      | none => rfl
      | some l => have h1 := hext.fresh _ l hx m.no; have := m.lt; omega
    have lateNo : p < F → ∀ (q : Nat) (g' : Ent), p < q → q < F → es[q]? = some g' → g'.io.op.kind = 3 → e.j ∉ g'.ps := fun _ q g' h1 h2 hq hk hmem => hnD (st.cl q g' hq (st.wdone q g' hq h2 hk) _ hmem)
    by_cases hlt : p < F
    · rcases kind_le op with hk | hk | hk | hk
      · have hx := hyes (fun v h => some (v, h))
        obtain ⟨v, e1, e2⟩ := kind0_spec hk hx
        simp at e1
        refine same hlt ?_
        rw [hexec, e2, e1.1]
      · have hrd := R0.can.rd p o (F - (p + 1)) ho hwt (by rw [o3, hop]; exact hk) (by rw [lateE_length]; have := st.Fm; omega) (by
          rw [lateE_drop, cnt_lateE, o4]
          have hb : Nat.beq e.io.op.kind 1 = true := by rw [Nat.beq_eq, hop]; exact hk
          rw [if_pos hb]
          exact R0.late he (by omega) (lateNo hlt))
        rw [o3, hop, show p + 1 + (F - (p + 1)) = F by omega] at hrd
        refine same hlt ?_
        rw [hexec, hrd (hs F) (HLe.refl _)]
      · -- a block is made
        have hmkop := R0.chk.mks p e oo he hoo (by rw [hop]; exact hk)
        have hx := hyes (fun v h => some (v, h))
        obtain ⟨ob, val, e1, e2⟩ := comp_makes (σ := σ) hy hmkop hc S (.mk call round loop) T0 (hs p) (fun v h => some (v, h)) _ ((hexec _ _).trans hx)
        simp only [Option.some.injEq, Prod.mk.injEq] at e1
        obtain ⟨ev, eh⟩ := e1
        obtain ⟨hnone, hge, hltF, ob2, g1, g2⟩ := st.mks p e he hlt hwt (by rw [hop]; exact hk) hnD
        have hob : ob2 = ob := by
          have x1 := H.get_push_same (hs p) ob
          have x2 := H.get_push_same (hs p) ob2
          rw [eh, g1, x2] at x1
          simpa using x1
        have hgetF : (hs F).get (hs p).nx = some ob := hob ▸ g2
        obtain ⟨v', obj, sz, r1, r2, r3⟩ := e2 ι w a.eval st.tm.opds
        have hrel := st.rel.fill hnone hltF hgetF r2
        have hext := st.ext.fill (obj := obj) (sz := sz) hnone hge
        have hv : VR σ (ι.add (hs p).nx ⟨w.heap.size, 0, sz⟩) (vs p) v' := by rw [← ev]; exact r3 _ _ (Inj.add_same _ _ _)
        obtain ⟨p1, p2, p3⟩ := putok v' _ (Inj.add_le hnone) hv
        refine ⟨fun f _ => trivial, ?_⟩
        rw [Oper.semAt_eq _ _ _ (not_defer hc), r1]
        refine fin _ _ _ p1 p2 p3 (fun _ => ⟨hrel, hext, fun q g' hq hqF hwq hkq hD hne => ?_⟩) (fun e1 => by omega)
        have hmq := (st.mks q g' hq hqF hwq hkq hD).no
        rw [Inj.add_ne]
        · exact hmq
        · intro heq
          rcases Nat.lt_or_gt_of_ne hne with h1 | h1
          · have := st.mkd q p g' e hq he h1 hlt hwq hwt hkq (by rw [hop]; exact hk) hD hnD
            rw [heq] at this; omega
          · have := st.mkd p q e g' he hq h1 hqF hwt hwq (by rw [hop]; exact hk) hkq hnD hD
            rw [heq] at this; omega
      · exact absurd (st.wdone p e he hlt (by rw [hop]; exact hk)) hnD
    · have hpe : p = F := by omega
      have hx := hyes (fun v h => some (v, h))
      refine oper (hs F) (hs (p + 1)) (by rw [hexec, ← hpe]; exact hx) ro ι a w K Q st.rel st.tm.opds fun v' w' ι' hv hr hext => ?_
      obtain ⟨p1, p2, p3⟩ := putok v' ι' hext.le hv
      exact fin _ w' ι' p1 p2 p3 (fun h => absurd h hlt) (fun _ => ⟨hr, st.ext.trans hext, hext.nx, fun b hb hbn => ⟨by
        cases hx : ι' b with
        | none => rfl
        | some l => have := hext.fresh _ l hx hbn; omega, hext.keepA b hb hbn⟩⟩)
  · -- not wanted
    have hwt : wt p = false := by
      cases hwt : wt p with
      | false => rfl
      | true =>
        have := (R0.can.yes p o ho hwt).1 none (some r)
        rw [o2, hgd, ← hwant, ew] at this; cases this
    simp only [hw ι a.tmps st.tm, if_false, Bool.false_eq_true]
    refine ⟨fun _ _ => trivial, ?_⟩
    obtain ⟨n1, n2, _⟩ := R0.can.no p o ho hwt
    obtain ⟨p1, p2⟩ := st.tm.put st.tsz hd (VR.undef (σ := σ) (ι := ι))
    rw [← n1] at p1
    refine fin _ w ι p1 p2 (by rw [← st.df]; cases oo.dst <;> rfl) (fun hlt => ⟨st.rel, st.ext, fun q g' hq hqF hwq hk hD hne => (st.mks q g' hq hqF hwq hk hD).no⟩) (fun e1 => ?_)
    rw [n2, e1]; exact ⟨st.rel, st.ext, Nat.le_refl _, fun b _ hb => ⟨hb, rfl⟩⟩
end
end Go.Ab

/- A region that draws its order, whole. -/
namespace Go.Ab
section
variable {P : Program} {cx : Cx} {σ : Nat → Int} {S : Sy} {call : Nat → List V → H → K → R} {round : Pos → List V → H → K → R} {loop : IC → T → H → (T → H → R) → (Option Nat → T → H → R) → R}
variable {nt : Nat} {ops : Array Oper} {es : List Ent} {t : T} {h : H} {k : T → H → R} {r : V × H} {ts : Nat → T} {hs : Nat → H} {vs : Nat → V} {wt : Nat → Bool}
variable {ι0 : Inj} {w0 : World} {df : List Deferred} {listed : Array Bool} {a : Act} {w : World} {T0 : T} {ι : Inj} {F : Nat}

theorem St.final {E : Env} (R0 : Rg cx S E nt ops es t h k r ts hs vs wt) (st : St cx σ nt ops es t h hs vs wt ι0 w0 df listed a w T0 ι F) (hall : ∀ (p : Nat) (e : Ent), es[p]? = some e → Dn listed e.j) :
    Fr cx σ nt ι (ts es.length) (hs es.length) a w ∧ a.defers = df ∧ Ext ι0 ι h (hs es.length) w0 w := by
  have hF : F = es.length := by
    have := st.Fm
    by_cases h1 : F < es.length
    · obtain ⟨e, h2, _, h3⟩ := st.Fw h1; exact absurd (hall F e h2) h3
    · omega
  subst hF
  refine ⟨⟨st.rel, fun n => ?_, st.tsz⟩, st.df, st.ext⟩
  obtain ⟨g1, g2⟩ := R0.tsGot es.length (Nat.le_refl _)
  have : T0.get (Pos.of n) = (ts es.length).get (Pos.of n) := by
    by_cases hq : ∃ (q : Nat) (f : Ent), es[q]? = some f ∧ f.io.dst = some (Pos.of n)
    · obtain ⟨q, f, hf, hd⟩ := hq
      rw [st.got q f _ hf (hall q f hf) hd, g1 q f _ (List.getElem?_eq_some_iff.1 hf).1 hf hd]
    · rw [st.old _ fun q f hf _ hd => hq ⟨q, f, hf, hd⟩, g2 _ fun q f _ hf hd => hq ⟨q, f, hf, hd⟩]
  rw [← ev_get this]; exact st.tm n

theorem St.any (hS : SyOk σ P S) (hy : Hyp P cx) (hE : EnvNat call round loop) (hok : EnvOk P cx σ call round) (R0 : Rg cx S (.mk call round loop) nt ops es t h k r ts hs vs wt) {ro : Option Nat} {Q : Exit → Act → World → Prop}
    (hQ : ∀ ι a w, Fr cx σ nt ι (ts es.length) (hs es.length) a w → a.defers = df → Ext ι0 ι h (hs es.length) w0 w → Q .normal a w) :
    ∀ (fuel : Nat) (listed : Array Bool) (a : Act) (w : World) (T0 : T) (ι : Inj) (F : Nat), St cx σ nt ops es t h hs vs wt ι0 w0 df listed a w T0 ι F → listed.toList.count false = fuel → wpAnyIn (Fz ro) 0 P .any ops Q fuel listed a w := by
  intro fuel
  have done : ∀ (listed : Array Bool) (a : Act) (w : World) (T0 : T) (ι : Inj) (F : Nat), St cx σ nt ops es t h hs vs wt ι0 w0 df listed a w T0 ι F → Region.ready .any ops listed = [] → Q .normal a w := by
    intro listed a w T0 ι F st hr
    have hall : ∀ (p : Nat) (e : Ent), es[p]? = some e → Dn listed e.j := by
      intro p
      induction p using Nat.strongRecOn with
      | _ p ih =>
        intro e he
        refine Classical.byContradiction fun hn => ?_
        have hlt := R0.chk.lt p e he
        obtain ⟨oo, h1, h2, h3⟩ := R0.ent p e he
        have : e.j ∈ Region.ready .any ops listed := by
          unfold Region.ready
          rw [List.mem_filter]
          refine ⟨by simpa using hlt, ?_⟩
          rw [Bool.and_eq_true, h1]
          constructor
          · rw [Array.getD_eq_getD_getElem?]
            cases hx : listed[e.j]? with
            | none => rw [Array.getElem?_eq_none_iff] at hx; rw [st.sz] at hx; omega
            | some b => cases b with
              | false => rfl
              | true => exact absurd hx hn
          · simp only [Option.map_some, Option.getD_some]
            rw [← Array.all_toList, List.all_eq_true]
            intro ed hed
            cases hb : Region.binds .any ed with
            | false => rfl
            | true =>
              have hz : ed.on ∈ e.ps := by
                rw [h2]; unfold predsOf; rw [List.mem_map]; exact ⟨ed, by rw [List.mem_filter]; exact ⟨hed, hb⟩, rfl⟩
              obtain ⟨q, f, hq, hf, e1⟩ := R0.chk.topo p e he _ hz
              have hD := ih q hq f hf
              rw [e1] at hD
              unfold Dn at hD
              simp [Array.getD_eq_getD_getElem?, hD]
        rw [hr] at this; cases this
    obtain ⟨f1, f2, f3⟩ := st.final R0 hall
    exact hQ ι a w f1 f2 f3
  induction fuel with
  | zero =>
    intro listed a w T0 ι F st hc
    have hr : Region.ready .any ops listed = [] := by
      unfold Region.ready
      rw [List.filter_eq_nil_iff]
      intro i hi hb
      rw [Bool.and_eq_true] at hb
      have hi : i < ops.size := by simpa using hi
      have hl : i < listed.size := by rw [st.sz]; exact hi
      have hx := hb.1
      rw [Array.getD_eq_getD_getElem?, Array.getElem?_eq_getElem hl] at hx
      simp only [Option.getD_some, Bool.not_eq_true'] at hx
      have : false ∈ listed.toList := by rw [← hx]; exact Array.getElem_mem_toList hl
      have := List.count_pos_iff.2 this
      omega
    exact ⟨hr, done listed a w T0 ι F st hr⟩
  | succ fuel ih =>
    intro listed a w T0 ι F st hc
    refine ⟨done listed a w T0 ι F st, fun i hi => ?_⟩
    refine st.step hS hy hE hok R0 hi fun a' w' T' ι' F' st' => ih _ a' w' T' ι' F' st' ?_
    unfold Region.ready at hi
    rw [List.mem_filter] at hi
    have hi1 : i < ops.size := by simpa using hi.1
    have hl : i < listed.size := by rw [st.sz]; exact hi1
    have hx := (Bool.and_eq_true .. ▸ hi.2 : _ ∧ _).1
    rw [Array.getD_eq_getD_getElem?, Array.getElem?_eq_getElem hl] at hx
    simp only [Option.getD_some, Bool.not_eq_true'] at hx
    rw [Array.toList_setIfInBounds, List.count_set (by simpa using hl)]
    have : listed.toList[i]'(by simpa using hl) = false := by simpa using hx
    rw [this, hc]; simp

theorem regd_sound (hS : SyOk σ P S) (hy : Hyp P cx) (hm : P.follows .mixedOrders = true) (hE : EnvNat call round loop) (hok : EnvOk P cx σ call round) {L : List IOpr} (hc : compDraw cx nt ops = .regd L)
    {t : T} {h : H} {k : T → H → R} {r : V × H} (hx : opersD S L (.mk call round loop) [] t h k = some r) :
    ∃ t' h', k t' h' = some r ∧ ∀ (ro : Option Nat) (id : Nat) (ι : Inj) (a : Act) (w : World) (Q : Exit → Act → World → Prop), Fr cx σ nt ι t h a w →
      (∀ ι' a' w', Fr cx σ nt ι' t' h' a' w' → a'.defers = a.defers → Ext ι ι' h h' w w' → Q .normal a' w') → (Code.region id ops true).wpIn (Fz ro) 0 P Q a w := by
  unfold compDraw at hc
  generalize hes : (order ops ops.size []).map (entOf cx nt ops) = es at hc
  by_cases hchk : chkEnts ops es = true
  · rw [if_pos hchk] at hc
    cases hc
    obtain ⟨hlen, hok2⟩ := chk_ok hchk
    have hlate : ∀ o ∈ lateE es, o.late ≠ 0 → o.op.kind = 1 := by
      intro o ho hl
      obtain ⟨p, hp, e⟩ := List.getElem_of_mem ho
      have h1 := lateE_get es p
      rw [List.getElem?_eq_getElem hp, e] at h1
      cases h2 : es[p]? with
      | none => rw [h2] at h1; cases h1
      | some x =>
        rw [h2] at h1
        simp only [Option.map_some, Option.some.injEq] at h1
        subst h1
        by_cases hb : Nat.beq x.io.op.kind 1 = true
        · rw [Nat.beq_eq] at hb; exact hb
        · simp [hb] at hl
    obtain ⟨ts, hs, vs, wt, can⟩ := opersD_can hE (lateE es) [] t h k r (by simp) hlate hx
    have R0 : Rg cx S (.mk call round loop) nt ops es t h k r ts hs vs wt := ⟨hlen, hok2, fun p e he => by
      rw [← hes, List.getElem?_map] at he
      cases h2 : (order ops ops.size [])[p]? with
      | none => rw [h2] at he; cases he
      | some j =>
        rw [h2] at he
        simp only [Option.map_some, Option.some.injEq] at he
        have hj := hok2.lt p e (by rw [← hes, List.getElem?_map, h2, ← he]; rfl)
        have hje : e.j = j := by rw [← he]; unfold entOf; split <;> rfl
        rw [hje] at hj ⊢
        refine ⟨ops[j], Array.getElem?_eq_getElem hj, ?_, ?_⟩
        · rw [← he]; unfold entOf; rw [Array.getElem?_eq_getElem hj]
        · rw [← he]; unfold entOf; rw [Array.getElem?_eq_getElem hj], can⟩
    have hfin := can.fin
    rw [lateE_length] at hfin
    refine ⟨_, _, hfin, fun ro id ι a w Q hf hQ => ?_⟩
    refine wpIn_region_any hm ?_
    obtain ⟨F, n1, n2, n3, n4⟩ := next_writer es es.length 0 (by omega)
    obtain ⟨c1, c2, c3, c4⟩ := R0.chain (σ := σ) F n1 n2 n3
    rw [can.h0] at c1 c2 c3
    have hnD : ∀ j, ¬ Dn (Array.replicate ops.size false) j := fun j hD => by
      unfold Dn at hD
      rw [Array.getElem?_replicate] at hD
      split at hD <;> simp at hD
    have hrel : Rel cx σ ι h { w with drawn := w.drawn + 1 } := hf.rel.drew rfl
    have hst : St cx σ nt ops es t h hs vs wt ι w a.defers (Array.replicate ops.size false) a { w with drawn := w.drawn + 1 } t ι F :=
      ⟨by simp, fun p e _ hD => absurd hD (hnD _), hf.tm, hf.sz, rfl, fun p e d _ hD => absurd hD (hnD _), fun x _ => rfl, n2, fun hF => by obtain ⟨e, a1, a2⟩ := n4 hF; exact ⟨e, a1, a2, hnD _⟩, fun p e _ hD => absurd hD (hnD _),
        fun p e he hpF hk => absurd hk (n3 p e (Nat.zero_le _) hpF he), c1 ι _ hrel, c2 ι ι h w _ (Ext.drew ι h w _), fun p e he hpF hw hk _ => by
          obtain ⟨_, _, d3, _⟩ := R0.chain (σ := σ) (a := 0) p (Nat.zero_le _) (by omega) fun i e' x1 x2 x3 => n3 i e' x1 (by omega) x3
          rw [can.h0] at d3
          obtain ⟨y1, y2⟩ := R0.mkAt he hw hk hpF n2 fun i e' x1 x2 x3 => n3 i e' (Nat.zero_le _) x2 x3
          refine ⟨?_, d3, y1, y2⟩
          cases hxx : ι (hs p).nx with
          | none => rfl
          | some l => have := (hf.rel.bound _ l hxx).1; omega,
        fun p q e g he hg hpq hqF hwp hwq hkp hkq _ _ => (R0.mkAt he hwp hkp hpq (by omega) fun i e' x1 x2 x3 => n3 i e' (Nat.zero_le _) (by omega) x3).1⟩
    exact St.any hS hy hE hok R0 (ι0 := ι) (w0 := w) (df := a.defers) (fun ι' a' w' f1 f2 f3 => hQ ι' a' w' f1 f2 f3) ops.size _ _ _ _ _ _ hst (by simp [List.count_replicate])
  · rw [if_neg hchk] at hc; cases hc
end
end Go.Ab

/- Code: every run of it ends as the abstract one. -/
namespace Go.Ab

section scope
variable {F : Fence} {n : Nat} {P : Program} {Q : Exit → Act → World → Prop} {a : Act} {w : World} {b : Frame} {k : List Item} {cs : List Frame}
theorem stepR_scope {c : Code} : step P (lone (b.atR a (.code (.scope c) :: k)) cs w) = .next (lone (b.atR a (.code c :: .inScope c :: k)) cs w) :=
  step_lone_go (by simp [stepG, stepG.exec, Frame.atR])
theorem stepR_inScope {c : Code} : step P (lone (b.atR a (.inScope c :: k)) cs w) = .next (lone (b.atR a k) cs w) :=
  step_lone_go (by simp [stepG, stepG.exec, Frame.atR])
theorem wpIn_scope_straight {c : Code} (h : c.wpIn F n P (Exit.noGoto Q) a w) : (Code.scope c).wpIn F n P Q a w := by
  intro b k cs hro hb hr
  have h0 : (lone (b.atR a (.code (.scope c) :: k)) cs w).fenced P F := fenced_calm hb hr rfl
  obtain ⟨e, a₁, w₁, hq, harr⟩ := h b (.inScope c :: k) cs hro hb hr
  cases e with
  | normal => exact ⟨.normal, a₁, w₁, hq, .head h0 stepR_scope (StepsIn.trans harr (.one (fenced_calm hb hr rfl) stepR_inScope))⟩
  | exit id =>
    have hx : exitTo id (.inScope c :: k) = exitTo id k := by simp [exitTo]
    exact ⟨.exit id, a₁, w₁, hq, fun k' hk => .head h0 stepR_scope (harr.1 k' (by rw [hx]; exact hk)),
      fun hr' hk => let ⟨k₁, h1, h2⟩ := harr.2 hr' (by rw [hx]; exact hk); ⟨k₁, h1, .head h0 stepR_scope h2⟩⟩
  | goto l => exact hq.elim
  | ret => exact ⟨_, a₁, w₁, hq, .of_steps (.one h0 stepR_scope) harr⟩
  | panic ch => exact ⟨_, a₁, w₁, hq, .of_steps (.one h0 stepR_scope) harr⟩
  | outgrown => exact ⟨_, a₁, w₁, hq, .of_steps (.one h0 stepR_scope) harr⟩

/-- a loop, as it stands behind its entry -/
def LoopW (F : Fence) (n : Nat) (P : Program) (c : Code) (Q : Exit → Act → World → Prop) (a : Act) (w : World) : Prop :=
  ∀ (b : Frame) (k : List Item) (cs : List Frame), b.roundOf = F.round → F.fn b.fn → F.room (cs.length + 1 + n) →
    ∃ e a' w', Q e a' w' ∧ ArrivesIn (Machine.fenced P F) P (lone (b.atR a (.code c :: .inLoop c :: k)) cs w) b k cs e a' w'
theorem LoopW.step {c : Code} (h : c.wpIn F n P (Exit.then (LoopW F n P c Q) Q) a w) : LoopW F n P c Q a w := by
  intro b k cs hro hb hr
  obtain ⟨e, a₁, w₁, hq, harr⟩ := h b (.inLoop c :: k) cs hro hb hr
  cases e with
  | normal =>
    obtain ⟨e₂, a₂, w₂, hq₂, harr₂⟩ := hq b k cs hro hb hr
    exact ⟨e₂, a₂, w₂, hq₂, .of_steps (StepsIn.trans harr (.one (fenced_calm hb hr rfl) stepR_inLoop)) harr₂⟩
  | exit id => exact ⟨_, a₁, w₁, hq, .pass (x := .inLoop c) rfl (fun _ _ => .inl (by simp)) harr⟩
  | goto l => exact ⟨_, a₁, w₁, hq, .pass (x := .inLoop c) rfl (fun _ _ => .inl (by simp)) harr⟩
  | ret => exact ⟨_, a₁, w₁, hq, .pass (x := .inLoop c) rfl (fun _ _ => .inl (by simp)) harr⟩
  | panic ch => exact ⟨_, a₁, w₁, hq, .pass (x := .inLoop c) rfl (fun _ _ => .inl (by simp)) harr⟩
  | outgrown => exact ⟨_, a₁, w₁, hq, .pass (x := .inLoop c) rfl (fun _ _ => .inl (by simp)) harr⟩
theorem LoopW.wp {c : Code} (h : LoopW F n P c Q a w) : (Code.loop c).wpIn F n P Q a w := by
  intro b k cs hro hb hr
  obtain ⟨e, a', w', hq, harr⟩ := h b k cs hro hb hr
  exact ⟨e, a', w', hq, .of_steps (.one (fenced_calm hb hr rfl) stepR_loop) harr⟩
end scope

section
variable {P : Program} {cx : Cx} {σ : Nat → Int} {S : Sy} {call : Nat → List V → H → K → R} {round : Pos → List V → H → K → R} {loop : IC → T → H → (T → H → R) → (Option Nat → T → H → R) → R}

/-- a frame's deferred calls: marks alone, of blocks that hold none -/
def MRel (lo : Nat) (ι : Inj) (w : World) : List Deferred → Prop
  | [] => True
  | d :: ds => (∃ r, d.target = .collected r ∧ lo ≤ r ∧ w.heap[r]? = some (.deferred (some [])) ∧ (∀ b l, ι b = some l → l.blk ≠ r) ∧ ∀ d' ∈ ds, d'.target ≠ .collected r) ∧ MRel lo ι w ds
theorem lt_of_some {w : World} {B : Nat} {o : Obj} (e : w.heap[B]? = some o) : B < w.heap.size := by
  rcases Nat.lt_or_ge B w.heap.size with h | h
  · exact h
  · rw [Array.getElem?_eq_none h] at e; cases e
theorem MRel.ext {lo : Nat} {ι ι' : Inj} {h h' : H} {w w' : World} (he : Ext ι ι' h h' w w') : ∀ {ds : List Deferred}, MRel lo ι w ds → MRel lo ι' w' ds
  | [], _ => trivial
  | d :: ds, hm => by
    obtain ⟨⟨r, h1, h0, h2, h3, h4⟩, h5⟩ := hm
    refine ⟨⟨r, h1, h0, he.keepW r _ h2 h3, fun b l hb hr => ?_, h4⟩, MRel.ext he h5⟩
    cases hx : ι b with
    | some l0 => have := he.le b l0 hx; rw [hb] at this; cases this; exact h3 b l hx hr
    | none =>
      rcases he.rng b l hb hx with h6 | ⟨b0, l0, h6, h7⟩
      · have := lt_of_some h2; omega
      · exact h3 b0 l0 h6 (h7.trans hr)

def exitOf : Option Nat → Exit
  | none => .ret
  | some id => .exit id
theorem then_exitOf {N : Act → World → Prop} {Q : Exit → Act → World → Prop} {e : Option Nat} {a : Act} {w : World} (h : Q (exitOf e) a w) : Exit.then N Q (exitOf e) a w := by cases e <;> exact h

/-- what a code's abstract run, in which 'kn' and 'kx' come to r, tells of the code's real ones -/
def WpOk (cx : Cx) (σ : Nat → Int) (lo nt : Nat) (t : T) (h : H) (kn : T → H → R) (kx : Option Nat → T → H → R) (r : V × H) (W : (Exit → Act → World → Prop) → Act → World → Prop) : Prop :=
  ∀ (ι : Inj) (a : Act) (w : World) (Q : Exit → Act → World → Prop), Fr cx σ nt ι t h a w → lo ≤ w.heap.size → MRel lo ι w a.defers →
    (∀ t' h', kn t' h' = some r → ∀ ι' a' w', Fr cx σ nt ι' t' h' a' w' → MRel lo ι' w' a'.defers → Ext ι ι' h h' w w' → Q .normal a' w') →
    (∀ e t' h', kx e t' h' = some r → ∀ ι' a' w', Fr cx σ nt ι' t' h' a' w' → MRel lo ι' w' a'.defers → Ext ι ι' h h' w w' → Q (exitOf e) a' w') → W Q a w

def LoopOk (P : Program) (cx : Cx) (σ : Nat → Int) (loop : IC → T → H → (T → H → R) → (Option Nat → T → H → R) → R) : Prop :=
  ∀ (c : Code) (lo nt : Nat) (inR : Bool) (t : T) (h : H) (kn : T → H → R) (kx : Option Nat → T → H → R) (r : V × H), loop (compC cx nt inR c) t h kn kx = some r →
    ∀ ro : Option Nat, (inR = false → ro = none) → WpOk cx σ lo nt t h kn kx r (LoopW (Fz ro) 0 P c)

theorem range_map_ops (ops : Array Oper) : (List.range ops.size).map (ops[·]?) = ops.toList.map some := by
  apply List.ext_getElem?
  intro i
  rw [List.getElem?_map, List.getElem?_map]
  by_cases h : i < ops.size
  · rw [List.getElem?_range h]; simp [h]
  · rw [List.getElem?_eq_none (by simp; omega), List.getElem?_eq_none (by simp; omega)]; rfl

/-- a block that stands for nothing is made -/
theorem Rel.beside {ι : Inj} {h : H} {w : World} (hr : Rel cx σ ι h w) (ob : Obj) : Rel cx σ ι h (w.alloc ob) ∧ Ext ι ι h h w (w.alloc ob) := by
  have hsz : (w.alloc ob).heap.size = w.heap.size + 1 := by show (w.heap.push ob).size = _; simp
  have hold : ∀ B, B < w.heap.size → (w.alloc ob).heap[B]? = w.heap[B]? := fun B hB => by show (w.heap.push ob)[B]? = _; simp [Array.getElem?_push, Nat.ne_of_lt hB]
  refine ⟨⟨fun x lx hx => ?_, hr.inj, fun x lx ox hx hox => (hr.obj x lx ox hx hox).other fun y hy => by rw [hold _ (hr.bound x lx hx).2]; exact hy⟩, ?_⟩
  · rw [hsz]; have := hr.bound x lx hx; omega
  · exact ⟨Le.refl _, fun _ _ e n => no_some e n, fun _ _ _ => rfl, Nat.le_refl _, fun B o e _ => (hold B (lt_of_some e)).trans e, by omega, fun _ _ e n => no_some e n, rfl, rfl, rfl⟩

theorem loopK_some {h : H} {l : Pos} {G : Nat → T → List Pos → IC → IC → R} {r : V × H} (e : h.loopK l G = some r) : ∃ st t ps as bd, h.get l = some (.loop st t ps as bd) ∧ G st t ps as bd = some r := by
  obtain ⟨o, ho, e⟩ := H.getK_some e
  cases o with
  | loop st t ps as bd => exact ⟨st, t, ps, as, bd, ho, e⟩
  | _ => cases e

theorem run_getLoop {w : World} {l : Nat} {r : Loop} (h : w.heap[l]? = some (.loop r)) : (Instr.getLoop l).run P w = .ok r w := by
  have : (getObj l).run P w = .ok (.loop r) w := by simp [getObj, Sem.run, h]
  simp [Instr.getLoop, this]

/-- a block is turned -/
def setO (w : World) (l : Nat) (o : Obj) : World := { w with heap := w.heap.setIfInBounds l o }
theorem run_setO {w : World} {l : Nat} {r : Loop} (h : w.heap[l]? = some (.loop r)) (o : Obj) : (setObj l o).run P w = .ok () (setO w l o) := by simp [setObj, Sem.run, h, setO]
theorem size_set (w : World) (l : Nat) (o : Obj) : (setO w l o).heap.size = w.heap.size := by simp [setO]
theorem get_set_same {w : World} {l : Nat} {o o' : Obj} (h : w.heap[l]? = some o') : (setO w l o).heap[l]? = some o := by
  have := lt_of_some h
  simp [setO, this]
theorem get_set_ne {w : World} {l B : Nat} {o : Obj} (h : B ≠ l) : (setO w l o).heap[B]? = w.heap[B]? := by
  simp [setO, Array.getElem?_setIfInBounds, Ne.symm h]

/-- a loop's record is turned -/
theorem Rel.setLoop {ι : Inj} {h : H} {w : World} (hr : Rel cx σ ι h w) {l : Pos} {lc : Loc} (hl : ι l = some lc) {st : Nat} {t : T} {ps : List Pos} {as bd : IC} (hg : h.get l = some (.loop st t ps as bd)) {r r' : Loop}
    (hw : w.heap[lc.blk]? = some (.loop r)) {o' : O} (hn : ORel cx σ ι (setO w lc.blk (.loop r')) lc o') :
    Rel cx σ ι (h.put l o') (setO w lc.blk (.loop r')) ∧ Ext ι ι h (h.put l o') w (setO w lc.blk (.loop r')) :=
  hr.put hl hg (by intro e; cases e) (size_set _ _ _) (fun B hB => get_set_ne hB) hn rfl rfl rfl

theorem rangeFunc_sound (hE : EnvNat call round loop) (hok : EnvOk P cx σ call round) {f : Operand} {ps : Array Tmp} {as bd : Code} {lo nt : Nat} {x : Opd} (hf : ofOpd f = some x) (hps : ∀ p ∈ ps.toList, p < nt)
    {t : T} {h : H} {kn : T → H → R} {kx : Option Nat → T → H → R} {r : V × H}
    (hx : code S (.rfun x (ps.toList.map Pos.of) (compC cx nt true as) (compC cx nt true bd)) (.mk call round loop) t h kn kx = some r) :
    WpOk cx σ lo nt t h kn kx r (fun Q a w => (Code.rangeFunc f ps as bd).wpIn (Fz none) 0 P Q a w) := by
  have hx : h.alloc (.loop 0 t (ps.toList.map Pos.of) (compC cx nt true as) (compC cx nt true bd)) (fun l h1 => Env.callFn (.mk call round loop) (x.ev t) [.yield l] h1 fun _ h2 => h2.loopK l fun st _ _ _ _ => Nat.rec (motive := fun _ => R) (kn t (h2.put l .dead))
        (fun s _ => Nat.rec (motive := fun _ => R) none (fun s _ => Nat.rec (motive := fun _ => R) (kx none t (h2.put l .dead)) (fun id _ => kx (some id) t (h2.put l .dead)) s) s) st) = some r := hx
  rw [H.alloc_eq] at hx
  cases hv : x.ev t with
  | fn g fs cs =>
    rw [hv] at hx
    obtain ⟨v, h2, hx, hcall⟩ := hok.call _ _ _ _ _ (show call g (app fs (app [.yield h.nx] cs)) _ _ = some r from hx)
    intro ι a w Q hfr hlo hm hkn hkx
    refine wpIn_rangeFunc fun fn _ => ?_
    have e1 := hfr.tm.opds f x hf
    rw [hv] at e1
    obtain ⟨xs, ys, ex, hx1, hy1⟩ := VR.fn.1 e1
    obtain ⟨b1, b2⟩ := hfr.rel.beside (cx := cx) (.deferred (some []))
    let rec0 : Loop := { state := .ready, pending := none, fn := fn, tmps := a.tmps, params := ps, assign := as, body := bd, defers := w.heap.size }
    let w1 := w.alloc (.deferred (some []))
    have hsz1 : w1.heap.size = w.heap.size + 1 := by show (w.heap.push _).size = _; simp
    have hor : ORel cx σ ι (w1.alloc (.loop rec0)) ⟨w1.heap.size, 0, 0⟩ (.loop 0 t (ps.toList.map Pos.of) (compC cx nt true as) (compC cx nt true bd)) :=
      ⟨rec0, by show (w1.heap.push _)[w1.heap.size]? = _; simp, rfl, fun _ => rfl, hfr.tm, rfl, fun p hp => by show p < a.tmps.size; rw [hfr.sz]; exact hps p hp, by show _ = compC cx a.tmps.size true as; rw [hfr.sz], by show _ = compC cx a.tmps.size true bd; rw [hfr.sz]⟩
    obtain ⟨c1, c2⟩ := b1.push _ (.loop rec0) 0 hor
    have hnx : (ι.add h.nx ⟨w1.heap.size, 0, 0⟩) h.nx = some ⟨w1.heap.size, 0, 0⟩ := Inj.add_same _ _ _
    have hargs : VRL σ (ι.add h.nx ⟨w1.heap.size, 0, 0⟩) (app fs (app [.yield h.nx] cs)) (xs ++ #[Value.func (.yield w1.heap.size) #[] #[]] ++ ys).toList := by
      rw [app_eq, app_eq]
      have h1 := VRL.mono c2.le _ _ hx1
      have h2 := VRL.mono c2.le _ _ hy1
      have h3 : VRL σ (ι.add h.nx ⟨w1.heap.size, 0, 0⟩) [.yield h.nx] [Value.func (.yield w1.heap.size) #[] #[]] := ⟨_, _, rfl, ⟨_, hnx, rfl⟩, rfl⟩
      have e : (xs ++ #[Value.func (.yield w1.heap.size) #[] #[]] ++ ys).toList = xs.toList ++ ([Value.func (.yield w1.heap.size) #[] #[]] ++ ys.toList) := by rw [Array.toList_append, Array.toList_append, List.append_assoc]
      rw [e]; exact h1.append (h3.append h2)
    obtain ⟨d1, d2⟩ := hcall _ _ _ c1 hargs
    refine ⟨w1.heap.size, [{ target := .collected w.heap.size, args := #[] }], w1.alloc (.loop rec0), { target := .fn (.func g) ys, args := xs ++ #[Value.func (.yield w1.heap.size) #[] #[]] }, w1.alloc (.loop rec0), g, _, w1.alloc (.loop rec0), ?_, ?_, fun _ _ => trivial, ?_, fun hh => (by cases hh), CallsIn.mono (callsIn_Fz d2) ?_⟩
    · simp [Instr.enterLoop, Fz, rec0, w1, Fence.wide]
    · show (Deferred.ofValue (a.eval f) (Array.map a.eval #[.const (.func (.yield w1.heap.size) #[] #[])])).run P _ = _
      rw [ex, show Array.map a.eval #[Operand.const (.func (.yield w1.heap.size) #[] #[])] = #[Value.func (.yield w1.heap.size) #[] #[]] by simp [Act.eval]]; rfl
    · exact d1
    · rintro e w3 ⟨v', ι2, rfl, hv2, hr2, he2⟩
      obtain ⟨st, t', ps', as', bd', hg, hx⟩ := loopK_some hx
      have hl2 : ι2 h.nx = some ⟨w1.heap.size, 0, 0⟩ := he2.le _ _ hnx
      obtain ⟨rr, hw3, hlr⟩ := hr2.obj _ _ _ hl2 hg
      have hw3 : w3.heap[w1.heap.size]? = some (.loop rr) := hw3
      obtain ⟨p1, p2⟩ := hr2.setLoop hl2 hg hw3 (r' := { rr with state := .exhausted }) (o' := .dead) trivial
      have hall : Ext ι ι2 h (h2.put h.nx .dead) w (setO w3 w1.heap.size (.loop { rr with state := .exhausted })) := (b2.trans c2).trans (he2.trans p2)
      have hfr2 : Fr cx σ nt ι2 t (h2.put h.nx .dead) { a with defers := [{ target := .collected w.heap.size, args := #[] }] ++ a.defers } (setO w3 w1.heap.size (.loop { rr with state := .exhausted })) := ⟨p1, hfr.tm.mono hall.le, hfr.sz⟩
      have hrest := hm.ext hall
      have hmark : (w1.alloc (.loop rec0)).heap[w.heap.size]? = some (.deferred (some [])) := by
        show ((w.heap.push _).push _)[w.heap.size]? = _
        simp [Array.getElem?_push]
      have hout : ∀ b l, (ι.add h.nx ⟨w1.heap.size, 0, 0⟩) b = some l → l.blk ≠ w.heap.size := fun b l hb => by
        by_cases e : b = h.nx
        · subst e; rw [Inj.add_same] at hb; cases hb; simp only; omega
        · rw [Inj.add_ne _ _ _ _ e] at hb; have := (hfr.rel.bound b l hb).2; omega
      have one : MRel lo (ι.add h.nx ⟨w1.heap.size, 0, 0⟩) (w1.alloc (.loop rec0)) [{ target := .collected w.heap.size, args := #[] }] := ⟨⟨_, rfl, hlo, hmark, hout, by simp⟩, trivial⟩
      obtain ⟨⟨q, q1, q0, q2, q3, _⟩, _⟩ := one.ext (he2.trans p2)
      have hm2 : MRel lo ι2 (setO w3 w1.heap.size (.loop { rr with state := .exhausted })) ([{ target := .collected w.heap.size, args := #[] }] ++ a.defers) := by
        refine ⟨⟨q, q1, q0, q2, q3, fun d' hd' hdq => ?_⟩, hrest⟩
        have hq : q = w.heap.size := by simpa using q1.symm
        have old : ∀ {ds : List Deferred}, MRel lo ι w ds → ∀ d' ∈ ds, d'.target ≠ .collected w.heap.size := by
          intro ds
          induction ds with
          | nil => intro _ d' h; cases h
          | cons d ds ih =>
            intro hm d' h
            obtain ⟨⟨r, r1, _, r2, _⟩, r3⟩ := hm
            rcases List.mem_cons.1 h with rfl | h
            · rw [r1]; intro e; cases e; have := lt_of_some r2; omega
            · exact ih r3 d' h
        exact old hm d' hd' (hq ▸ hdq)
      have hstate := hlr.hst
      have hend : rr.state ≠ .busy → (Instr.endLoop w1.heap.size).run P w3 = .ok rr.pending (setO w3 w1.heap.size (.loop { rr with state := .exhausted })) := fun hb => by
        have hlt := lt_of_some hw3
        have hb' : (rr.state == LoopState.busy) = false := by cases hs : rr.state <;> first | rfl | exact absurd hs hb
        unfold Instr.endLoop
        simp only [Sem.run_bind, run_getLoop hw3, Result.andThen_ok, hb', Bool.false_eq_true, if_false]
        simp only [Sem.run_bind, run_setO hw3, Result.andThen_ok, Sem.run_pure]
      cases st with
      | zero =>
        have hp : rr.pending = none := hlr.pend rfl
        refine ⟨none, _, (hend (fun e => by rw [e] at hstate; cases hstate)).trans (congrArg (Result.ok · _) hp), ?_⟩
        exact hkn t _ hx ι2 _ _ hfr2 hm2 hall
      | succ s =>
        cases s with
        | zero => cases hx
        | succ s =>
          cases s with
          | zero =>
            have hh : rr.state = .done ∧ rr.pending = some .ret := by
              revert hstate
              cases rr.state <;> (cases rr.pending with | none => simp [stOf] | some c => cases c <;> simp [stOf])
            refine ⟨some .ret, _, (hend (by rw [hh.1]; simp)).trans (congrArg (Result.ok · _) hh.2), wpIn_ret ?_⟩
            exact hkx none t _ hx ι2 _ _ hfr2 hm2 hall
          | succ s =>
            have hh : rr.state = .done ∧ rr.pending = some (.exit s) := by
              revert hstate
              cases rr.state <;> (cases rr.pending with | none => simp [stOf] | some c => cases c <;> simp [stOf]; try omega)
            refine ⟨some (.exit s), _, (hend (by rw [hh.1]; simp)).trans (congrArg (Result.ok · _) hh.2), wpIn_exit ?_⟩
            exact hkx (some s) t _ hx ι2 _ _ hfr2 hm2 hall
  | _ => rw [hv] at hx; cases hx
end
end Go.Ab

/- Code: by its shape; a loop's round; a function. -/
namespace Go.Ab
section
variable {P : Program} {cx : Cx} {σ : Nat → Int} {S : Sy} {call : Nat → List V → H → K → R} {round : Pos → List V → H → K → R} {loop : IC → T → H → (T → H → R) → (Option Nat → T → H → R) → R}

theorem code_sound (hS : SyOk σ P S) (hy : Hyp P cx) (hm : P.follows .mixedOrders = true) (hE : EnvNat call round loop) (hok : EnvOk P cx σ call round) (hlp : LoopOk P cx σ loop) {lo nt : Nat} (c : Code) :
    ∀ (inR : Bool) (t : T) (h : H) (kn : T → H → R) (kx : Option Nat → T → H → R) (r : V × H), code S (compC cx nt inR c) (.mk call round loop) t h kn kx = some r →
      ∀ ro : Option Nat, (inR = false → ro = none) → WpOk cx σ lo nt t h kn kx r (fun Q a w => c.wpIn (Fz ro) 0 P Q a w) := by
  induction c with
  | skip => intro inR t h kn kx r hx ro _ ι a w Q hf hlo hmr hn _; exact wpIn_skip (hn t h hx ι a w hf hmr (Ext.refl _ _ _))
  | ret => intro inR t h kn kx r hx ro _ ι a w Q hf hlo hmr _ hk; exact wpIn_ret (hk none t h hx ι a w hf hmr (Ext.refl _ _ _))
  | label l => intro inR t h kn kx r hx ro _ ι a w Q hf hlo hmr hn _; exact wpIn_label (hn t h hx ι a w hf hmr (Ext.refl _ _ _))
  | exit id => intro inR t h kn kx r hx ro _ ι a w Q hf hlo hmr _ hk; exact wpIn_exit (hk (some id) t h hx ι a w hf hmr (Ext.refl _ _ _))
  | goto l => intro inR t h kn kx r hx; cases hx
  | refuse s => intro inR t h kn kx r hx; cases hx
  | scope c ih =>
    intro inR t h kn kx r hx ro hro ι a w Q hf hlo hmr hn hk
    refine wpIn_scope_straight (ih inR t h kn kx r hx ro hro ι a w _ hf hlo hmr (fun t' h' e ι' a' w' f1 f2 f3 => hn t' h' e ι' a' w' f1 f2 f3) fun e t' h' ee ι' a' w' f1 f2 f3 => ?_)
    have := hk e t' h' ee ι' a' w' f1 f2 f3
    cases e <;> exact this
  | region id ops draw =>
    intro inR t h kn kx r hx ro _ ι a w Q hf hlo hmr hn _
    cases draw with
    | true =>
      have hx : code S (compDraw cx nt ops) (.mk call round loop) t h kn kx = some r := hx
      cases hcd : compDraw cx nt ops with
      | regd L =>
        rw [hcd] at hx
        obtain ⟨t', h', h1, h2⟩ := regd_sound hS hy hm hE hok hcd (show opersD S L (.mk call round loop) [] t h kn = some r from hx)
        exact h2 ro id ι a w Q hf fun ι' a' w' f1 f2 f3 => hn t' h' h1 ι' a' w' f1 (by rw [f2]; exact hmr.ext f3) f3
      | bad => rw [hcd] at hx; cases hx
      | _ =>
        exfalso
        unfold compDraw at hcd
        split at hcd
        · cases hcd
        · cases hcd
    | false =>
      have hx : opers S (ops.toList.map (compOpr cx nt ops 0)) (.mk call round loop) t h kn = some r := hx
      obtain ⟨t', h', h1, h2⟩ := opers_sound hS hy rfl hok (List.range ops.size) ops.toList (range_map_ops ops) hx
      exact wpIn_region (h2 ro ι a w Q hf fun ι' a' w' f1 f2 f3 => hn t' h' h1 ι' a' w' f1 (by rw [f2]; exact hmr.ext f3) f3)
  | seq x y ihx ihy =>
    intro inR t h kn kx r hx ro hro ι a w Q hf hlo hmr hn hk
    refine wpIn_seq (ihx inR t h (fun t h => code S (compC cx nt inR y) (.mk call round loop) t h kn kx) kx r hx ro hro ι a w _ hf hlo hmr (fun t' h' e ι' a' w' f1 f2 f3 => ?_) fun e t' h' ee ι' a' w' f1 f2 f3 => then_exitOf (hk e t' h' ee ι' a' w' f1 f2 f3))
    exact ihy inR t' h' kn kx r e ro hro ι' a' w' Q f1 (Nat.le_trans hlo f3.size) f2 (fun t2 h2 e2 ι2 a2 w2 g1 g2 g3 => hn t2 h2 e2 ι2 a2 w2 g1 g2 (f3.trans g3)) fun e t2 h2 e2 ι2 a2 w2 g1 g2 g3 => hk e t2 h2 e2 ι2 a2 w2 g1 g2 (f3.trans g3)
  | cond o x y ihx ihy =>
    intro inR t h kn kx r hx ro hro ι a w Q hf hlo hmr hn hk
    unfold compC at hx
    cases ho : ofOpd o with
    | none => rw [ho] at hx; cases hx
    | some o' =>
      rw [ho] at hx
      have hx : (o'.ev t).onBool (fun b => Bool.rec (motive := fun _ => R) (code S (compC cx nt inR y) (.mk call round loop) t h kn kx) (code S (compC cx nt inR x) (.mk call round loop) t h kn kx) b) = some r := hx
      obtain ⟨b, hb, hx⟩ := V.onBool_some hx
      have hv := hf.tm.opds o o' ho
      rw [hb] at hv
      refine wpIn_cond (t := b) (VR.bool.1 hv) ?_
      cases b with
      | true => exact ihx inR t h kn kx r hx ro hro ι a w Q hf hlo hmr hn hk
      | false => exact ihy inR t h kn kx r hx ro hro ι a w Q hf hlo hmr hn hk
  | block id x ih =>
    intro inR t h kn kx r hx ro hro ι a w Q hf hlo hmr hn hk
    refine wpIn_block (ih inR t h kn (fun e t h => Option.rec (motive := fun _ => R) (kx none t h) (fun j => Bool.rec (motive := fun _ => R) (kx (some j) t h) (kn t h) (Nat.beq j id)) e) r hx ro hro ι a w _ hf hlo hmr
      (fun t' h' e ι' a' w' f1 f2 f3 => hn t' h' e ι' a' w' f1 f2 f3) fun e t' h' ee ι' a' w' f1 f2 f3 => ?_)
    cases e with
    | none => exact hk none t' h' ee ι' a' w' f1 f2 f3
    | some j =>
      show Exit.inBlock id Q (.exit j) a' w'
      by_cases hj : j = id
      · subst hj
        have hb : Nat.beq j j = true := by rw [Nat.beq_eq]
        have ee : Bool.rec (motive := fun _ => R) (kx (some j) t' h') (kn t' h') (Nat.beq j j) = some r := ee
        rw [hb] at ee
        simp only [Exit.inBlock, if_true]
        exact hn t' h' ee ι' a' w' f1 f2 f3
      · have hb : Nat.beq j id = false := by
          cases hb : Nat.beq j id with
          | false => rfl
          | true => rw [Nat.beq_eq] at hb; exact absurd hb hj
        have ee : Bool.rec (motive := fun _ => R) (kx (some j) t' h') (kn t' h') (Nat.beq j id) = some r := ee
        rw [hb] at ee
        simp only [Exit.inBlock, hj, if_false]
        exact hk (some j) t' h' ee ι' a' w' f1 f2 f3
  | loop x ih =>
    intro inR t h kn kx r hx ro hro ι a w Q hf hlo hmr hn hk
    exact LoopW.wp (hlp x lo nt inR t h kn kx r hx ro hro ι a w Q hf hlo hmr hn hk)
  | rangeFunc f ps x y ihx ihy =>
    intro inR t h kn kx r hx ro hro
    unfold compC at hx
    cases ho : ofOpd f with
    | none => rw [ho] at hx; cases hx
    | some o' =>
      rw [ho] at hx
      simp only at hx
      split at hx
      · rename_i hcond
        rw [Bool.and_eq_true, List.all_eq_true] at hcond
        cases inR with
        | true => cases hcond.1
        | false =>
          rw [hro rfl]
          exact rangeFunc_sound hE hok ho (fun p hp => by simpa using hcond.2 p hp) hx
      · cases hx

theorem loop_sound (hS : SyOk σ P S) (hy : Hyp P cx) (hm : P.follows .mixedOrders = true) (hE : EnvNat call round loop) (hok : EnvOk P cx σ call round) (hlp : LoopOk P cx σ loop) :
    LoopOk P cx σ (fun b t h kn kx => code S b (.mk call round loop) t h (fun t h => loop b t h kn kx) kx) := by
  intro c lo nt inR t h kn kx r hx ro hro ι a w Q hf hlo hmr hn hk
  refine LoopW.step (code_sound hS hy hm hE hok hlp (lo := lo) c inR t h _ kx r hx ro hro ι a w _ hf hlo hmr (fun t' h' e ι' a' w' f1 f2 f3 => ?_) fun e t' h' ee ι' a' w' f1 f2 f3 => then_exitOf (hk e t' h' ee ι' a' w' f1 f2 f3))
  exact hlp c lo nt inR t' h' kn kx r e ro hro ι' a' w' Q f1 (Nat.le_trans hlo f3.size) f2 (fun t2 h2 e2 ι2 a2 w2 g1 g2 g3 => hn t2 h2 e2 ι2 a2 w2 g1 g2 (f3.trans g3)) fun e t2 h2 e2 ι2 a2 w2 g1 g2 g3 => hk e t2 h2 e2 ι2 a2 w2 g1 g2 (f3.trans g3)
end
end Go.Ab
