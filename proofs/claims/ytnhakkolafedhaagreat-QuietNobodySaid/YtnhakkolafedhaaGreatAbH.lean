/- Each operation, fourth part: numbers, bools, equality. -/
import Derived.Test.YtnhakkolafedhaaGreatAbG
set_option linter.unusedVariables false
set_option linter.unusedSimpArgs false
namespace Go.Ab
section
variable {P : Program} {cx : Cx} {σ : Nat → Int}

/-- what the symbols' words must be worth -/
structure SyOk (σ : Nat → Int) (P : Program) (S : Sy) : Prop where
  bin : ∀ (op : BinOp) (x y v : V), S.bin op x y = some v → ∀ (ι : Inj) (a b : Value), VR σ ι x a → VR σ ι y b →
    ∃ (k k' : IntKind) (n m : Int), a = .int k n ∧ b = .int k' m ∧ ∀ (t : TypeId) (w : World), ∃ c, (binOp op t a b).run P w = .ok c w ∧ ∀ ι, VR σ ι v c
  conv : ∀ (k : IntKind) (x v : V), S.conv k x = some v → ∀ (ι : Inj) (a : Value), VR σ ι x a → ∃ (j : IntKind) (n : Int), a = .int j n ∧ ∀ ι, VR σ ι v (.int k (k.wrap n))

theorem kbeq_iff {j k : IntKind} : kbeq j k = true ↔ j = k := by cases j <;> cases k <;> simp [kbeq]
theorem bnot_eq (b : Bool) : bnot b = !b := by cases b <;> rfl
theorem beqB_eq (a b : Bool) : beqB a b = (a == b) := by cases a <;> cases b <;> rfl
theorem negIf_eq (n b : Bool) : negIf n b = if n then !b else b := by cases n <;> cases b <;> rfl
theorem ltb_eq (a b : Nat) : ltb a b = decide (a < b) := by
  cases h : ltb a b with
  | true => exact (decide_eq_true (ltb_iff.1 h)).symm
  | false => exact (decide_eq_false (fun hh => by rw [ltb_iff.2 hh] at h; cases h)).symm
theorem ieq_eq (a b : Int) : ieq a b = (a == b) := by
  cases a with
  | ofNat x => cases b with
    | ofNat y => show Nat.beq x y = _; rw [Bool.eq_iff_iff]; simp [Nat.beq_eq]; omega
    | negSucc y => show false = _; symm; rw [beq_eq_false_iff_ne]; intro h; cases h
  | negSucc x => cases b with
    | ofNat y => show false = _; symm; rw [beq_eq_false_iff_ne]; intro h; cases h
    | negSucc y => show Nat.beq x y = _; rw [Bool.eq_iff_iff]; simp [Nat.beq_eq]
theorem ilt_eq (a b : Int) : ilt a b = decide (a < b) := by
  cases a with
  | ofNat x => cases b with
    | ofNat y => show ltb x y = _; rw [ltb_eq]; congr 1; simp
    | negSucc y => show false = _; symm; apply decide_eq_false; simp only [Int.ofNat_eq_natCast]; omega
  | negSucc x => cases b with
    | ofNat y => show true = _; symm; apply decide_eq_true; simp only [Int.ofNat_eq_natCast]; omega
    | negSucc y => show ltb y x = _; rw [ltb_eq]; congr 1; apply propext; omega
theorem wrapK_some {k : IntKind} {n : Int} {c : Int → R} {r : V × H} (h : wrapK k n c = some r) : c (IntKind.wrap k n) = some r := by
  cases k <;> try exact h
  cases n with
  | ofNat x =>
    have h' : (Bool.rec (motive := fun _ => R) (c (IntKind.wrap .i64 (.ofNat x))) (c (.ofNat x)) (Nat.ble x 9223372036854775807)) = some r := h
    cases hb : Nat.ble x 9223372036854775807 with
    | false => rw [hb] at h'; exact h'
    | true => rw [hb] at h'; rw [Nat.ble_eq] at hb; rw [wrap_i64 (by simp only [Int.ofNat_eq_natCast]; omega) (by simp only [Int.ofNat_eq_natCast]; omega)]; exact h'
  | negSucc x =>
    have h' : (Bool.rec (motive := fun _ => R) (c (IntKind.wrap .i64 (.negSucc x))) (c (.negSucc x)) (Nat.ble x 9223372036854775807)) = some r := h
    cases hb : Nat.ble x 9223372036854775807 with
    | false => rw [hb] at h'; exact h'
    | true => rw [hb] at h'; rw [Nat.ble_eq] at hb; rw [wrap_i64 (by omega) (by omega)]; exact h'
theorem nn_some {a b : Int} {k : Nat → Nat → R} {r : V × H} (h : nn a b k = some r) : ∃ x y, a = .ofNat x ∧ b = .ofNat y ∧ k x y = some r := by
  cases a with
  | ofNat x => cases b with
    | ofNat y => exact ⟨x, y, rfl, rfl, h⟩
    | negSucc y => cases h
  | negSucc x => cases h

theorem ofInt_nat (w x : Nat) : (BitVec.ofInt w (Int.ofNat x)).toNat = x % 2 ^ w := by
  simp
theorem bin_sim {op : BinOp} {j k : IntKind} {a b : Int} {c : V → R} {r : V × H} (h : binInt op j k a b c = some r) (t : TypeId) :
    ∃ v, c v = some r ∧ ∃ x, (∀ ι, VR σ ι v x) ∧ ∀ w, (binOp op t (.int j a) (.int k b)).run P w = .ok x w := by
  cases op
  case add => obtain ⟨hk, g⟩ := ifK_some.1 h; clear h; rw [kbeq_iff] at hk; subst hk; exact ⟨_, wrapK_some g, _, fun _ => rfl, fun w => by simp [binOp, Op.intArith]⟩
  case sub => obtain ⟨hk, g⟩ := ifK_some.1 h; clear h; rw [kbeq_iff] at hk; subst hk; exact ⟨_, wrapK_some g, _, fun _ => rfl, fun w => by simp [binOp, Op.intArith]; rfl⟩
  case mul => obtain ⟨hk, g⟩ := ifK_some.1 h; clear h; rw [kbeq_iff] at hk; subst hk; exact ⟨_, wrapK_some g, _, fun _ => rfl, fun w => by simp [binOp, Op.intArith]⟩
  case quo =>
    obtain ⟨hk, g⟩ := ifK_some.1 h; clear h; rw [kbeq_iff] at hk; subst hk
    obtain ⟨hz, h⟩ := ifK_some.1 g; rw [bnot_eq, ieq_eq] at hz
    have : ¬ b = 0 := by simpa using hz
    exact ⟨_, wrapK_some h, _, fun _ => rfl, fun w => by simp [binOp, Op.intDiv, this]⟩
  case rem =>
    obtain ⟨hk, g⟩ := ifK_some.1 h; clear h; rw [kbeq_iff] at hk; subst hk
    obtain ⟨hz, h⟩ := ifK_some.1 g; rw [bnot_eq, ieq_eq] at hz
    have : ¬ b = 0 := by simpa using hz
    exact ⟨_, h, _, fun _ => rfl, fun w => by simp [binOp, Op.intDiv, this]⟩
  case and =>
    obtain ⟨hk, g⟩ := ifK_some.1 h; clear h; rw [kbeq_iff] at hk; subst hk
    obtain ⟨x, y, rfl, rfl, h⟩ := nn_some g
    exact ⟨_, wrapK_some h, _, fun _ => rfl, fun w => by simp only [binOp, ne_eq, not_true_eq_false, if_false, Op.intBits, Sem.run_pure, BitVec.toNat_and, ofInt_nat]; rfl⟩
  case or =>
    obtain ⟨hk, g⟩ := ifK_some.1 h; clear h; rw [kbeq_iff] at hk; subst hk
    obtain ⟨x, y, rfl, rfl, h⟩ := nn_some g
    exact ⟨_, wrapK_some h, _, fun _ => rfl, fun w => by simp only [binOp, ne_eq, not_true_eq_false, if_false, Op.intBits, Sem.run_pure, BitVec.toNat_or, ofInt_nat]; rfl⟩
  case xor =>
    obtain ⟨hk, g⟩ := ifK_some.1 h; clear h; rw [kbeq_iff] at hk; subst hk
    obtain ⟨x, y, rfl, rfl, h⟩ := nn_some g
    exact ⟨_, wrapK_some h, _, fun _ => rfl, fun w => by simp only [binOp, ne_eq, not_true_eq_false, if_false, Op.intBits, Sem.run_pure, BitVec.toNat_xor, ofInt_nat]; rfl⟩
  case andNot =>
    obtain ⟨hk, g⟩ := ifK_some.1 h; clear h; rw [kbeq_iff] at hk; subst hk
    obtain ⟨x, y, rfl, rfl, h⟩ := nn_some g
    exact ⟨_, wrapK_some h, _, fun _ => rfl, fun w => by simp only [binOp, ne_eq, not_true_eq_false, if_false, Op.intBits, Sem.run_pure, BitVec.toNat_and, BitVec.toNat_not, ofInt_nat]; rfl⟩
  case shl =>
    obtain ⟨hz, h⟩ := ifK_some.1 h; rw [ilt_eq] at hz
    have hz : -1 < b := by simpa using hz
    exact ⟨_, wrapK_some h, _, fun _ => rfl, fun w => by
      simp only [binOp, Op.shift, if_neg (show ¬ b < 0 by omega), Sem.run_pure]
      congr 3⟩
  case shr =>
    obtain ⟨hz, h⟩ := ifK_some.1 h; rw [ilt_eq] at hz
    have hz : -1 < b := by simpa using hz
    exact ⟨_, h, _, fun _ => rfl, fun w => by
      simp only [binOp, Op.shift, if_neg (show ¬ b < 0 by omega), Sem.run_pure]
      congr 3⟩
  case eql => obtain ⟨hk, g⟩ := ifK_some.1 h; clear h; rw [kbeq_iff] at hk; subst hk; exact ⟨_, g, _, fun _ => rfl, fun w => by simp [binOp, Op.intCmp, ieq_eq]⟩
  case neq => obtain ⟨hk, g⟩ := ifK_some.1 h; clear h; rw [kbeq_iff] at hk; subst hk; exact ⟨_, g, _, fun _ => rfl, fun w => by simp [binOp, Op.intCmp, ieq_eq, bnot_eq, bne]⟩
  case lss => obtain ⟨hk, g⟩ := ifK_some.1 h; clear h; rw [kbeq_iff] at hk; subst hk; exact ⟨_, g, _, fun _ => rfl, fun w => by simp [binOp, Op.intCmp, ilt_eq]⟩
  case leq => obtain ⟨hk, g⟩ := ifK_some.1 h; clear h; rw [kbeq_iff] at hk; subst hk; exact ⟨_, g, _, fun _ => rfl, fun w => by simp only [binOp, ne_eq, not_true_eq_false, if_false, Op.intCmp, Sem.run_pure, ilt_eq, bnot_eq]; congr 2; rw [Bool.eq_iff_iff]; simp⟩
  case gtr => obtain ⟨hk, g⟩ := ifK_some.1 h; clear h; rw [kbeq_iff] at hk; subst hk; exact ⟨_, g, _, fun _ => rfl, fun w => by simp [binOp, Op.intCmp, ilt_eq]⟩
  case geq => obtain ⟨hk, g⟩ := ifK_some.1 h; clear h; rw [kbeq_iff] at hk; subst hk; exact ⟨_, g, _, fun _ => rfl, fun w => by simp only [binOp, ne_eq, not_true_eq_false, if_false, Op.intCmp, Sem.run_pure, ilt_eq, bnot_eq]; congr 2; rw [Bool.eq_iff_iff]; simp⟩

theorem s_bin {S : Sy} (hS : SyOk σ P S) {o : Oper} {op : BinOp} {tx ty : TypeId} {x y : Operand} {x' y' : Opd} (ho : o.op = .binOp op tx x y ty) (hx : ofOpd x = some x') (hy : ofOpd y = some y') : Sound cx σ P o (x_bin S op x' y') := by
  intro t h k r e
  have sym : ∀ (e : (Option.rec (motive := fun _ => R) none (fun v => k v h) (S.bin op (x'.ev t) (y'.ev t))) = some r), ∃ v h', k v h' = some r ∧ OSim cx σ P o t h v h' := by
    intro e
    cases hb : S.bin op (x'.ev t) (y'.ev t) with
    | none => rw [hb] at e; cases e
    | some v =>
      rw [hb] at e
      refine ⟨v, h, e, OSim.same fun ι w ρ hr hρ => ?_⟩
      obtain ⟨k1, k2, n, m, ha, hbb, hrun⟩ := hS.bin op _ _ v hb ι _ _ (hρ x x' hx) (hρ y y' hy)
      obtain ⟨c, hc1, hc2⟩ := hrun tx w
      refine ⟨c, ?_, hc2 ι⟩
      rw [ha, hbb] at hc1
      simp only [execOp, ho, ha, hbb, Sem.run_bind, eqGuard_at_int, Sem.run_pure, Result.andThen_ok, hc1]
  rcases V.onInt_some e with ⟨i, a, hvx, e⟩ | ⟨_, e⟩
  · rcases V.onInt_some e with ⟨j, b, hvy, e⟩ | ⟨_, e⟩
    · obtain ⟨v, e, x0, hx0, hrun⟩ := bin_sim (P := P) (σ := σ) e tx
      refine ⟨v, h, e, OSim.same fun ι w ρ hr hρ => ⟨x0, ?_, hx0 ι⟩⟩
      have h1 := hρ x x' hx
      rw [hvx] at h1
      have h2 := hρ y y' hy
      rw [hvy] at h2
      rw [VR.int] at h1 h2
      simp only [execOp, ho, h1, h2, Sem.run_bind, eqGuard_at_int, Sem.run_pure, Result.andThen_ok, hrun w]
    · exact sym e
  · exact sym e

theorem s_notb {o : Oper} {ty : TypeId} {x : Operand} {y : Opd} (ho : o.op = .unOp .not ty x) (hx : ofOpd x = some y) : Sound cx σ P o (x_notb y) := by
  intro t h k r e
  obtain ⟨b, hb, e⟩ := V.onBool_some e
  refine ⟨_, h, e, OSim.same fun ι w ρ hr hρ => ⟨.bool (!b), ?_, by rw [bnot_eq]; rfl⟩⟩
  have h1 := hρ x y hx
  rw [hb, VR.bool] at h1
  simp [execOp, ho, h1, Op.unary]
theorem s_neg {o : Oper} {ty : TypeId} {x : Operand} {y : Opd} (ho : o.op = .unOp .neg ty x) (hx : ofOpd x = some y) : Sound cx σ P o (x_neg y) := by
  intro t h k r e
  rcases V.onInt_some e with ⟨i, a, hvx, e⟩ | ⟨_, e⟩
  · refine ⟨_, h, wrapK_some e, OSim.same fun ι w ρ hr hρ => ⟨_, ?_, rfl⟩⟩
    have h1 := hρ x y hx
    rw [hvx, VR.int] at h1
    simp [execOp, ho, h1, Op.unary, Op.intArith]
    exact congrArg _ (by show -a = 0 - a; omega)
  · cases e
theorem s_conv {S : Sy} (hS : SyOk σ P S) (hy : Hyp P cx) {o : Oper} {s d : TypeId} {x : Operand} {y : Opd} {j : IntKind} {ds : TypeDesc} (ho : o.op = .convert s d x) (hx : ofOpd x = some y) (hs : und cx s = some ds) (hd : und cx d = some (.int j)) : Sound cx σ P o (x_conv S j y) := by
  intro t h k r e
  have hrun : ∀ (i : IntKind) (n : Int) (w : World), (convert s d (.int i n)).run P w = .ok (.int j (j.wrap n)) w := fun i n w => by
    simp [convert, run_underlying (und_spec hy hs), run_underlying (und_spec hy hd), Conv.intToInt]
  rcases V.onInt_some e with ⟨i, a, hvx, e⟩ | ⟨_, e⟩
  · refine ⟨_, h, wrapK_some e, OSim.same fun ι w ρ hr hρ => ⟨_, ?_, rfl⟩⟩
    have h1 := hρ x y hx
    rw [hvx, VR.int] at h1
    simp only [execOp, ho, h1, Sem.run_bind, hrun, Result.andThen_ok, Sem.run_pure]
  · cases hb : S.conv j (y.ev t) with
    | none => rw [hb] at e; cases e
    | some v =>
      rw [hb] at e
      refine ⟨v, h, e, OSim.same fun ι w ρ hr hρ => ?_⟩
      obtain ⟨i, n, ha, hv⟩ := hS.conv j _ v hb ι _ (hρ x y hx)
      refine ⟨_, ?_, hv ι⟩
      simp only [execOp, ho, ha, Sem.run_bind, hrun, Result.andThen_ok, Sem.run_pure]

theorem evs_sim {ι : Inj} {t : T} {ρ : Operand → Value} (hρ : Opds σ ι t ρ) : ∀ {l : List Operand} {l' : List Opd}, ofOpds l = some l' → VRL σ ι (evs l' t) (l.map ρ)
  | [], l', h => by simp [ofOpds] at h; subst h; exact rfl
  | x :: l, l', h => by
    unfold ofOpds at h
    cases h1 : ofOpd x with
    | none => simp [h1] at h
    | some y =>
      cases h2 : ofOpds l with
      | none => simp [h1, h2] at h
      | some ys => simp [h1, h2] at h; subst h; exact ⟨_, _, rfl, hρ x y h1, evs_sim hρ h2⟩
theorem s_mkfn {o : Oper} {f : FuncId} {a b : Array Operand} {a' b' : List Opd} (ho : o.op = .makeFunc (.func f) a b) (ha : ofOpds a.toList = some a') (hb : ofOpds b.toList = some b') : Sound cx σ P o (x_mkfn f a' b') := by
  intro t h k r e
  refine ⟨_, h, e, OSim.same fun ι w ρ hr hρ => ⟨.func (.func f) (a.map ρ) (b.map ρ), by simp [execOp, ho, Instr.makeFunc], VR.fn.2 ⟨_, _, rfl, ?_, ?_⟩⟩⟩
  · simpa using evs_sim hρ ha
  · simpa using evs_sim hρ hb
theorem s_mkmap {o : Oper} {ty : TypeId} (ho : o.op = .makeMap ty none) : Sound cx σ P o x_mkmap := by
  intro t h k r e0
  have e1 : k (.map h.nx) (h.push (.mp [])) = some r := by rw [← e0]; exact (H.alloc_eq h _ (fun r h' => k (.map r) h')).symm
  refine ⟨_, _, e1, fun ι w ρ hr hρ => ?_⟩
  obtain ⟨g2, g3⟩ := hr.push (.mp []) (.map #[] 0) 0 ⟨#[], 0, by show (w.heap.push _)[w.heap.size]? = _; simp, rfl, rfl⟩
  refine ⟨_, .map (some w.heap.size), _, _, ?_, .inl rfl, ⟨_, Inj.add_same _ _ _, rfl⟩, g2, g3⟩
  simp [execOp, ho, Instr.makeMap]

theorem lenK_some {s : V} {k : Nat → R} {r : V × H} (h : lenK s k = some r) : (s = .nils ∧ k 0 = some r) ∨ ∃ b o n c f, s = .sl b o n c f ∧ k n = some r := by
  rcases V.onSl_some h with ⟨b, o, n, c, f, rfl, h⟩ | ⟨_, h⟩
  · exact .inr ⟨b, o, n, c, f, rfl, h⟩
  · obtain ⟨h1, h⟩ := ifK_some.1 h
    exact .inl ⟨V.isNils_iff.1 h1, h⟩
theorem s_len (hy : Hyp P cx) {o : Oper} {ty e : TypeId} {x : Operand} {y : Opd} {args : Array Operand} {tys : Array TypeId} (ho : o.op = .call { callee := .builtin .len, args := args, argTypes := tys }) (ha : args.toList = [x]) (ht : tys.toList[0]? = some ty) (hx : ofOpd x = some y) (hu : und cx ty = some (.slice e)) :
    Sound cx σ P o (x_len y) := by
  intro t h k r e0
  have ht' : tys[0]? = some ty := by simpa using ht
  have hA : args = #[x] := by cases args; simp at ha; subst ha; rfl
  have run0 : ∀ (ρ : Operand → Value) (a : Option Addr) (n c : Nat) (w : World), ρ x = .slice a n c → (execOp ρ o).run P w = .ok (.value (goInt n)) w := fun ρ a n c w hv => by
    simp [execOp, ho, hA, resolve, invoke, builtin, Builtin.len_, ht', hv, run_underlying (und_spec hy hu)]
  rcases lenK_some e0 with ⟨hn, e0⟩ | ⟨b, off, n, c, f, hn, e0⟩
  · refine ⟨_, h, e0, OSim.same fun ι w ρ hr hρ => ⟨goInt 0, ?_, rfl⟩⟩
    have h1 := hρ x y hx
    rw [hn, VR.nils] at h1
    exact run0 ρ none 0 0 w h1
  · refine ⟨_, h, e0, OSim.same fun ι w ρ hr hρ => ⟨goInt n, ?_, rfl⟩⟩
    have h1 := hρ x y hx
    rw [hn] at h1
    obtain ⟨l, c', A, _, hw, _⟩ := h1
    exact run0 ρ _ n c' w hw
theorem s_lenc (hy : Hyp P cx) {o : Oper} {ty : TypeId} {x : Operand} {n : Nat} {args : Array Operand} {tys : Array TypeId} (ho : o.op = .call { callee := .builtin .len, args := args, argTypes := tys }) (ha : args.toList = [x]) (ht : tys.toList[0]? = some ty)
    (hu : (∃ e, und cx ty = some (.array n e)) ∨ ∃ a e, und cx ty = some (.pointer a) ∧ und cx a = some (.array n e)) :
    Sound cx σ P o (x_mv (.c (.int .i64 n))) := by
  intro t h k r e0
  have ht' : tys[0]? = some ty := by simpa using ht
  have hA : args = #[x] := by cases args; simp at ha; subst ha; rfl
  refine ⟨_, h, e0, OSim.same fun ι w ρ hr hρ => ⟨goInt n, ?_, rfl⟩⟩
  rcases hu with ⟨e, hu⟩ | ⟨a, e, hu, hu2⟩
  · simp [execOp, ho, hA, resolve, invoke, builtin, Builtin.len_, ht', run_underlying (und_spec hy hu)]
  · simp [execOp, ho, hA, resolve, invoke, builtin, Builtin.len_, ht', run_underlying (und_spec hy hu), run_underlying (und_spec hy hu2)]

theorem mnx_sim {isMax : Bool} {j : IntKind} {t : T} : ∀ {l : List Operand} {ys : List Opd} {n : Int} {k : V → R} {r : V × H}, ofOpds l = some ys → mnxK isMax j ys t n k = some r →
    ∃ m, k (.int j m) = some r ∧ ∀ (ι : Inj) (ρ : Operand → Value) (w : World), Opds σ ι t ρ → ((l.map ρ).foldlM (if isMax then Builtin.max2 else Builtin.min2) (.int j n)).run P w = .ok (.int j m) w
  | [], ys, n, k, r, h, e => by
    simp [ofOpds] at h; subst h
    exact ⟨n, e, fun ι ρ w _ => by simp⟩
  | x :: l, ys, n, k, r, h, e => by
    unfold ofOpds at h
    cases h1 : ofOpd x with
    | none => simp [h1] at h
    | some y =>
      cases h2 : ofOpds l with
      | none => simp [h1, h2] at h
      | some ys' =>
        simp [h1, h2] at h; subst h
        rcases V.onInt_some e with ⟨i, m, hv, e⟩ | ⟨_, e⟩
        · obtain ⟨m', e, hm⟩ := mnx_sim h2 e
          refine ⟨m', e, fun ι ρ w hρ => ?_⟩
          have hx := hρ x y h1
          rw [hv, VR.int] at hx
          have := hm ι ρ w hρ
          cases isMax
          · simp only [List.map_cons, List.foldlM_cons, hx, Bool.false_eq_true, if_false, Builtin.min2, Sem.run_bind, Sem.run_pure, Result.andThen_ok]
            simp only [ilt_eq] at this
            by_cases hlt : m < n <;> simp [hlt] at this ⊢ <;> exact this
          · simp only [List.map_cons, List.foldlM_cons, hx, if_true, Builtin.max2, Sem.run_bind, Sem.run_pure, Result.andThen_ok]
            simp only [ilt_eq] at this
            by_cases hlt : n < m <;> simp [hlt] at this ⊢ <;> exact this
        · cases e
theorem s_mnx {o : Oper} {isMax : Bool} {x : Operand} {l : List Operand} {y : Opd} {ys : List Opd} {args : Array Operand} {tys : Array TypeId} (ho : o.op = .call { callee := .builtin (if isMax then .max else .min), args := args, argTypes := tys }) (ha : args.toList = x :: l) (hx : ofOpd x = some y) (hl : ofOpds l = some ys) :
    Sound cx σ P o (x_mnx isMax y ys) := by
  intro t h k r e0
  rcases V.onInt_some e0 with ⟨i, n, hv, e0⟩ | ⟨_, e0⟩
  · obtain ⟨m, e0, hm⟩ := mnx_sim (P := P) (σ := σ) hl e0
    refine ⟨_, h, e0, OSim.same fun ι w ρ hr hρ => ⟨.int i m, ?_, rfl⟩⟩
    have h1 := hρ x y hx
    rw [hv, VR.int] at h1
    have := hm ι ρ w hρ
    have hA : (args.map ρ).toList = .int i n :: l.map ρ := by rw [Array.toList_map, ha, List.map_cons, h1]
    cases isMax
    · simp only [Bool.false_eq_true, if_false] at this
      simp [execOp, ho, resolve, invoke, builtin, Builtin.min_, ha, h1, this]
    · simp only [if_true] at this
      simp [execOp, ho, resolve, invoke, builtin, Builtin.max_, ha, h1, this]
  · cases e0
end
end Go.Ab
