/- An abstract interpreter of the program's text, in plain terms, proved sound; part 4. No condition. -/
import Derived.Test.YtkjlkjnlhogkiaaDoorLc
set_option linter.unusedVariables false
set_option linter.unusedSimpArgs false
/- The memory: blocks of cells, what is read, what is written, what stays; slices. -/
namespace Go.Ab
theorem O.getK_of {o : O} {i : Nat} {v : V} (hc : o.isC = true) (hi : i < o.size) (hv : o.at i = some v) (k : V → R) : o.getK i k = k v := by
  cases o with
  | lst l => exact nthK_eq hv k
  | big n m zs t =>
    have hi : i < n := hi
    show ifK (ltb i n) _ = _
    rw [ltb_eq, decide_eq_true hi]
    show Option.rec (motive := fun _ => R) (nthK zs (Nat.mod i m) k) (fun v => k v) (t.getV (Pos.of i)) = _
    simp only [O.at, hi, if_true] at hv
    rw [Tr.getV_eq]
    cases ht : t.get (Pos.of i) with
    | some w => rw [ht] at hv; simp at hv; subst hv; rfl
    | none => rw [ht] at hv; exact nthK_eq hv k
  | _ => cases hc
theorem H.getK_of {h : H} {b : Pos} {o : O} (e : h.get b = some o) (k : O → R) : h.getK b k = k o := by
  cases h with
  | mk nx m =>
    show Option.rec (motive := fun _ => R) none k (m.getO b) = _
    rw [Tr.getO_eq]
    have e : m.get b = some o := e
    rw [e]

/-- a block of these cells -/
structure Cells (h : H) (b : Pos) (l : List V) : Prop where
  lt : b.toNat < h.nx.toNat
  ex : ∃ o, h.get b = some o ∧ o.isC = true ∧ o.size = l.length ∧ ∀ i, i < l.length → o.at i = l[i]?
theorem Cells.ld1 {h : H} {b : Pos} {l : List V} (c : Cells h b l) {i : Nat} {v : V} (e : l[i]? = some v) (k : V → R) : h.ld1 b i k = k v := by
  obtain ⟨o, h1, h2, h3, h4⟩ := c.ex
  have hi := (List.getElem?_eq_some_iff.1 e).1
  show h.getK b (fun o => o.getK i k) = _
  rw [H.getK_of h1, O.getK_of h2 (by omega) (by rw [h4 i hi]; exact e)]
theorem getcs_of {o : O} {l : List V} (h2 : o.isC = true) (h3 : o.size = l.length) (h4 : ∀ i, i < l.length → o.at i = l[i]?) : ∀ (n i : Nat) (k : List V → R), i + n ≤ l.length → getcs o n i k = k ((l.drop i).take n)
  | 0, i, k, _ => by simp; rfl
  | n + 1, i, k, hle => by
    have hi : i < l.length := by omega
    show o.getK i (fun v => getcs o n (Nat.succ i) fun vs => k (v :: vs)) = _
    rw [O.getK_of h2 (by omega) (by rw [h4 i hi, List.getElem?_eq_getElem hi]), getcs_of h2 h3 h4 n (i + 1) _ (by omega), List.drop_eq_getElem_cons hi]
    rfl
theorem Cells.ldn {h : H} {b : Pos} {l : List V} (c : Cells h b l) {i n : Nat} (e : i + n ≤ l.length) (k : List V → R) : h.ldn b i n k = k ((l.drop i).take n) := by
  obtain ⟨o, h1, h2, h3, h4⟩ := c.ex
  show h.getK b (fun o => getcs o n i k) = _
  rw [H.getK_of h1, getcs_of h2 h3 h4 n i k e]

/-! writing -/
noncomputable def O.w1 (o : O) (i : Nat) (v : V) : O := match o with | .lst l => .lst (l.set i v) | .big n m zs t => .big n m zs (t.put (Pos.of i) v) | o => o
noncomputable def O.wn (o : O) (i : Nat) : List V → O
  | [] => o
  | v :: vs => (o.w1 i v).wn (i + 1) vs
noncomputable def H.wn (h : H) (b : Pos) (i : Nat) (vs : List V) : H := match h.get b with | some o => h.put b (o.wn i vs) | none => h
theorem O.w1_spec {o : O} (hc : o.isC = true) {i : Nat} (hi : i < o.size) (v : V) : (o.w1 i v).isC = true ∧ (o.w1 i v).size = o.size ∧ ∀ j, (o.w1 i v).at j = if j = i then some v else o.at j := by
  cases o with
  | lst l =>
    refine ⟨rfl, by simp [O.w1, O.size], fun j => ?_⟩
    have hi : i < l.length := hi
    by_cases hj : j = i
    · subst hj; simp [O.w1, O.at, hi]
    · simp [O.w1, O.at, hj, List.getElem?_set_ne (Ne.symm hj)]
  | big n m zs t =>
    refine ⟨rfl, rfl, fun j => ?_⟩
    have hi : i < n := hi
    by_cases hj : j = i
    · subst hj; simp [O.w1, O.at, hi, Tr.get_put_same]
    · simp [O.w1, O.at, hj, Tr.get_put_ne _ _ _ _ (Pos.of_ne hj)]
  | _ => cases hc
theorem O.setK_of {o : O} (hc : o.isC = true) {i : Nat} (hi : i < o.size) {v : V} (h1 : v.one = true) (k : O → R) : o.setK i v k = k (o.w1 i v) := by
  show ifK v.one _ = _
  rw [h1]
  cases o with
  | lst l =>
    have hi : i < l.length := hi
    show ifK (ltb i (llen l)) (k (.lst (lset v l i))) = _
    rw [ltb_eq, llen_eq, decide_eq_true hi, lset_eq]; rfl
  | big n m zs t =>
    have hi : i < n := hi
    show ifK (ltb i n) (Tr.putVK (Pos.of i) v t fun t => k (.big n m zs t)) = _
    rw [ltb_eq, decide_eq_true hi, Tr.putVK_eq]; rfl
  | _ => cases hc
theorem setcs_of : ∀ (vs : List V) {o : O} (i : Nat) (k : O → R), o.isC = true → i + vs.length ≤ o.size → (∀ v ∈ vs, v.one = true) →
    setcs vs o i k = k (o.wn i vs) ∧ (o.wn i vs).isC = true ∧ (o.wn i vs).size = o.size ∧ ∀ j, (o.wn i vs).at j = if i ≤ j ∧ j < i + vs.length then vs[j - i]? else o.at j
  | [], o, i, k, hc, hle, h1 => ⟨rfl, hc, rfl, fun j => by rw [if_neg (by simp)]; rfl⟩
  | v :: vs, o, i, k, hc, hle, h1 => by
    have hi : i < o.size := by simp at hle; omega
    obtain ⟨a1, a2, a3⟩ := O.w1_spec hc hi v
    obtain ⟨b1, b2, b3, b4⟩ := setcs_of vs (o := o.w1 i v) (i + 1) k a1 (by simp at hle; omega) fun u hu => h1 u (by simp [hu])
    refine ⟨?_, b2, b3.trans a2, fun j => ?_⟩
    · show o.setK i v (fun o' => setcs vs o' (Nat.succ i) k) = _
      rw [O.setK_of hc hi (h1 v (by simp))]; exact b1
    · show ((o.w1 i v).wn (i + 1) vs).at j = _
      rw [b4 j, a3 j]
      simp only [List.length_cons]
      by_cases hj : j = i
      · subst hj; rw [if_neg (by omega), if_pos rfl, if_pos (by omega)]; simp
      · by_cases hin : i + 1 ≤ j ∧ j < i + 1 + vs.length
        · rw [if_pos hin, if_pos (by omega), show j - i = (j - (i + 1)) + 1 by omega]; simp
        · rw [if_neg hin, if_neg hj, if_neg (by omega)]
/-- these cells laid over those, from a place on -/
def over (l : List V) (i : Nat) (vs : List V) : List V := l.take i ++ vs ++ l.drop (i + vs.length)
theorem over_length {l : List V} {i : Nat} {vs : List V} (h : i + vs.length ≤ l.length) : (over l i vs).length = l.length := by
  simp [over, List.length_take, List.length_drop]; omega
theorem over_get {l : List V} {i : Nat} {vs : List V} (h : i + vs.length ≤ l.length) (j : Nat) : (over l i vs)[j]? = if i ≤ j ∧ j < i + vs.length then vs[j - i]? else l[j]? := by
  unfold over
  by_cases h1 : j < i
  · rw [if_neg (by omega), List.append_assoc, List.getElem?_append_left (by simp; omega), List.getElem?_take_of_lt h1]
  · have e1 : (l.take i).length = i := by simp; omega
    rw [List.append_assoc, List.getElem?_append_right (by omega), e1]
    by_cases h2 : j < i + vs.length
    · rw [if_pos (by omega), List.getElem?_append_left (by omega)]
    · rw [if_neg (by omega), List.getElem?_append_right (by omega), List.getElem?_drop]; congr 1; omega
theorem over_one {l : List V} {i : Nat} {v : V} (h : i < l.length) : over l i [v] = l.set i v := by
  apply List.ext_getElem?
  intro j
  rw [over_get (by simp; omega)]
  simp only [List.length_cons, List.length_nil]
  by_cases hj : j = i
  · subst hj; rw [if_pos (by omega)]; simp [h]
  · rw [if_neg (by omega), List.getElem?_set_ne (Ne.symm hj)]
theorem Cells.stn {h : H} {b : Pos} {l : List V} (c : Cells h b l) {i : Nat} {vs : List V} (hle : i + vs.length ≤ l.length) (h1 : ∀ v ∈ vs, v.one = true) (k : H → R) : h.stn b i vs k = k (h.wn b i vs) := by
  obtain ⟨o, g1, g2, g3, g4⟩ := c.ex
  show h.getK b (fun o => setcs vs o i fun o' => k (h.put b o')) = _
  rw [H.getK_of g1, (setcs_of vs i _ g2 (by omega) h1).1]
  unfold H.wn; rw [g1]
theorem Cells.st1 {h : H} {b : Pos} {l : List V} (c : Cells h b l) {i : Nat} {v : V} (hi : i < l.length) (h1 : v.one = true) (k : H → R) : h.st1 b i v k = k (h.wn b i [v]) := by
  obtain ⟨o, g1, g2, g3, g4⟩ := c.ex
  show h.getK b (fun o => o.setK i v fun o' => k (h.put b o')) = _
  rw [H.getK_of g1, O.setK_of g2 (by omega) h1]
  unfold H.wn; rw [g1]; rfl
theorem Cells.wn {h : H} {b : Pos} {l : List V} (c : Cells h b l) {i : Nat} {vs : List V} (hle : i + vs.length ≤ l.length) (h1 : ∀ v ∈ vs, v.one = true) : Cells (h.wn b i vs) b (over l i vs) := by
  obtain ⟨o, g1, g2, g3, g4⟩ := c.ex
  obtain ⟨_, b2, b3, b4⟩ := setcs_of vs i (fun _ => none) g2 (by omega) h1
  have e : h.wn b i vs = h.put b (o.wn i vs) := by unfold H.wn; rw [g1]
  refine ⟨by rw [e, H.nx_put]; exact c.lt, o.wn i vs, by rw [e, H.get_put_same], b2, by rw [b3, g3, over_length hle], fun j hj => ?_⟩
  rw [b4 j, over_get hle]
  rw [over_length hle] at hj
  by_cases hin : i ≤ j ∧ j < i + vs.length
  · rw [if_pos hin, if_pos hin]
  · rw [if_neg hin, if_neg hin, g4 j hj]
theorem Cells.w1 {h : H} {b : Pos} {l : List V} (c : Cells h b l) {i : Nat} {v : V} (hi : i < l.length) (h1 : v.one = true) : Cells (h.wn b i [v]) b (l.set i v) := by
  rw [← over_one hi]; exact c.wn (by simp; omega) (by simpa using h1)
theorem H.nx_wn (h : H) (b : Pos) (i : Nat) (vs : List V) : (h.wn b i vs).nx = h.nx := by unfold H.wn; split <;> simp
theorem H.get_wn_ne (h : H) {b q : Pos} (i : Nat) (vs : List V) (hq : q ≠ b) : (h.wn b i vs).get q = h.get q := by
  unfold H.wn; split
  · exact H.get_put_ne _ _ _ _ hq
  · rfl

/-! what stays -/
structure Mod (M : Pos → Prop) (h h' : H) : Prop where
  nx : h.nx.toNat ≤ h'.nx.toNat
  get : ∀ q, q.toNat < h.nx.toNat → ¬ M q → h'.get q = h.get q
def no1 : Pos → Prop := fun _ => False
theorem Mod.refl {M : Pos → Prop} (h : H) : Mod M h h := ⟨Nat.le_refl _, fun _ _ _ => rfl⟩
theorem Mod.trans {M : Pos → Prop} {a b c : H} (x : Mod M a b) (y : Mod M b c) : Mod M a c :=
  ⟨Nat.le_trans x.nx y.nx, fun q hq hm => by rw [y.get q (Nat.lt_of_lt_of_le hq x.nx) hm, x.get q hq hm]⟩
theorem Mod.weaken {M N : Pos → Prop} {a b : H} (x : Mod M a b) (h : ∀ q, q.toNat < a.nx.toNat → M q → N q) : Mod N a b := ⟨x.nx, fun q hq hn => x.get q hq fun hm => hn (h q hq hm)⟩
/-- behind a change of new blocks alone -/
theorem Mod.trans' {M N : Pos → Prop} {a b c : H} (x : Mod M a b) (y : Mod N b c) (hn : ∀ q, q.toNat < a.nx.toNat → N q → M q) : Mod M a c :=
  ⟨Nat.le_trans x.nx y.nx, fun q hq hm => by rw [y.get q (Nat.lt_of_lt_of_le hq x.nx) fun h => hm (hn q hq h), x.get q hq hm]⟩
theorem Cells.mod {M : Pos → Prop} {h h' : H} {b : Pos} {l : List V} (c : Cells h b l) (m : Mod M h h') (hb : ¬ M b) : Cells h' b l :=
  ⟨Nat.lt_of_lt_of_le c.lt m.nx, by rw [m.get b c.lt hb]; exact c.ex⟩
theorem Mod.push {M : Pos → Prop} (h : H) (o : O) : Mod M h (h.push o) :=
  ⟨by rw [H.nx_push, Pos.toNat_succ]; omega, fun q hq _ => H.get_push_ne _ _ _ fun e => by subst e; omega⟩
theorem Mod.wn (h : H) (b : Pos) (i : Nat) (vs : List V) : Mod (fun q => q = b) h (h.wn b i vs) := ⟨by rw [H.nx_wn]; exact Nat.le_refl _, fun q _ hq => H.get_wn_ne h i vs hq⟩
theorem Mod.put (h : H) (b : Pos) (o : O) : Mod (fun q => q = b) h (h.put b o) := ⟨by rw [H.nx_put]; exact Nat.le_refl _, fun q _ hq => H.get_put_ne _ _ _ _ hq⟩
theorem Cells.new (h : H) (l : List V) : Cells (h.push (mkO l)) h.nx l := by
  obtain ⟨a, b, c, d⟩ := mkO_spec l
  exact ⟨by rw [H.nx_push, Pos.toNat_succ]; omega, mkO l, H.get_push_same _ _, a, b, c⟩
theorem Cells.zeros (h : H) (n : Nat) (z : V) : Cells (h.push (.big (n * 1) 1 [z] .nil)) h.nx (List.replicate n z) := by
  refine ⟨by rw [H.nx_push, Pos.toNat_succ]; omega, _, H.get_push_same _ _, rfl, by simp [O.size], fun i hi => ?_⟩
  simp only [List.length_replicate] at hi
  have hi' : i < n * 1 := by omega
  simp only [O.at, hi', if_true, List.getElem?_replicate, hi]
  rw [show (Tr.nil : Tr V).get (Pos.of i) = none from Tr.get_nil _]
  simp [Nat.mod_one]
theorem alloc_v (h : H) (o : O) (k : Pos → H → R) : h.alloc o k = k h.nx (h.push o) := H.alloc_eq h o k
theorem mkslice_v {esz : Nat} {zs : List V} {by_ : Nat} {i j : IntKind} {n m : Int} (h0 : 0 ≤ n) (h1 : n ≤ m) (h2 : m * by_ ≤ 1099511627776) (h3 : m ≤ 1099511627776) (h : H) (k : K) :
    o_mkslice esz zs by_ (.int i n) (.int j m) h k = k (.sl h.nx 0 n.toNat m.toNat none) (h.push (.big (m.toNat * esz) esz zs .nil)) := by
  show V.nat (.int i n) (fun n => V.nat (.int j m) fun m => _) = _
  rw [nat_i h0, nat_i (by omega)]
  have e1 : Nat.ble n.toNat m.toNat = true := by rw [Nat.ble_eq]; omega
  have e2 : Nat.ble (Nat.mul m.toNat by_) 1099511627776 = true := by
    rw [Nat.ble_eq]
    have : ((m.toNat * by_ : Nat) : Int) = m * by_ := by rw [Int.natCast_mul, Int.toNat_of_nonneg (by omega)]
    show m.toNat * by_ ≤ _
    omega
  have e3 : Nat.ble m.toNat 1099511627776 = true := by rw [Nat.ble_eq]; omega
  rw [e1, e2, e3]
  show h.alloc (.big (m.toNat * esz) esz zs .nil) (fun r h' => k (.sl r 0 n.toNat m.toNat none) h') = _
  exact H.alloc_eq h _ _

/-! slices of cells -/
inductive Sli (h : H) (esz : Nat) : V → List V → Prop
  | nil : Sli h esz .nils []
  | sl {b : Pos} {o n cap : Nat} {fx : Option Nat} {L : List V} (c : Cells h b L) (hn : n ≤ cap) (ho : o + cap * esz ≤ L.length) (hf : ∀ e, fx = some e → e = esz ∧ cap = n) : Sli h esz (.sl b o n cap fx) ((L.drop o).take (n * esz))
/-- a slice's block -/
def V.blk (v : V) (q : Pos) : Prop := match v with | .sl b _ _ _ _ => q = b | _ => False
theorem Sli.mod {M : Pos → Prop} {h h' : H} {esz : Nat} {s : V} {l : List V} (x : Sli h esz s l) (m : Mod M h h') (hb : ∀ q, s.blk q → ¬ M q) : Sli h' esz s l := by
  cases x with
  | nil => exact .nil
  | sl c hn ho hf => exact .sl (c.mod m (hb _ rfl)) hn ho hf
theorem Sli.lt {h : H} {esz : Nat} {s : V} {l : List V} (x : Sli h esz s l) {q : Pos} (hq : s.blk q) : q.toNat < h.nx.toNat := by
  cases x with
  | nil => cases hq
  | sl c _ _ _ => cases hq; exact c.lt
theorem Sli.len {h : H} {esz : Nat} {s : V} {l : List V} (x : Sli h esz s l) : ∃ n, l.length = n * esz ∧ (∀ k : Nat → R, lenK s k = k n) ∧ ∀ (h : H) (k : K), o_len s h k = k (.int .i64 (n : Int)) h := by
  cases x with
  | nil => exact ⟨0, by simp, fun _ => rfl, fun _ _ => rfl⟩
  | @sl b o n cap fx L c hn ho hf =>
    refine ⟨n, ?_, fun _ => rfl, fun _ _ => rfl⟩
    have := Nat.mul_le_mul_right esz hn
    simp; omega
theorem Sli.elems {h : H} {esz : Nat} {s : V} {l : List V} (x : Sli h esz s l) {n : Nat} (hn : n * esz ≤ l.length) (hp : 0 < esz) (k : List V → R) : h.elems esz s n k = k (l.take (n * esz)) := by
  cases x with
  | nil =>
    have : n = 0 := by
      rcases Nat.eq_zero_or_pos n with h | h
      · exact h
      · have := Nat.mul_pos h hp; simp at hn; omega
    subst this
    show V.onSl .nils (ifK (V.isNils .nils) (ifK (Nat.beq 0 0) (k []))) _ = _
    simp; rfl
  | @sl b o m cap fx L c hm ho hf =>
    have e := Nat.mul_le_mul_right esz hm
    have e2 : n ≤ m := by
      simp at hn
      exact Nat.le_of_mul_le_mul_right (by omega) hp
    have e3 := Nat.mul_le_mul_right esz e2
    show ifK (Nat.ble n m) (h.ldn b o (Nat.mul n esz) k) = _
    rw [ble_of e2]
    show h.ldn b o (n * esz) k = _
    rw [c.ldn (by omega), List.take_take]
    congr 2; omega
/-- an element's address -/
theorem Sli.ld1 {h : H} {s : V} {l : List V} (x : Sli h 1 s l) {j : IntKind} {i : Int} {v : V} (h0 : 0 ≤ i) (e : l[i.toNat]? = some v) (k : K) :
    (∀ (b : Pos) (o n cap : Nat) (fx : Option Nat), s = .sl b o n cap fx → i < (n : Int) ∧ ∀ k : V → R, h.ld1 b (o + i.toNat * 1) k = k v) ∧ (o_ixs 1 s (.int j i) h fun p h => o_ld1 p h k) = k v h := by
  cases x with
  | nil => simp at e
  | @sl b o n cap fx L c hn ho hf =>
    have hlt := (List.getElem?_eq_some_iff.1 e).1
    simp at hlt
    have e2 : L[o + i.toNat * 1]? = some v := by
      rw [List.getElem?_take_of_lt (by omega), List.getElem?_drop] at e; rw [Nat.mul_one]; exact e
    refine ⟨fun b' o' n' cap' fx' hs => ?_, ?_⟩
    · simp only [V.sl.injEq] at hs
      obtain ⟨rfl, rfl, rfl, rfl, rfl⟩ := hs
      exact ⟨by omega, fun k => c.ld1 e2 k⟩
    · rw [ixs_v h0 (by omega)]; exact c.ld1 e2 _
/-- appending -/
theorem Sli.append {h : H} {esz by_ : Nat} {s x : V} {l m : List V} (xa : Sli h esz s l) (xb : Sli h esz x m) (hp : 0 < esz) (h1 : ∀ v ∈ m, v.one = true) (hok : ∀ n len, l.length = len * esz → m.length = n * esz → appOk by_ s len n = true) :
    ∃ s' h', (∀ k : K, o_app esz by_ s x h k = k s' h') ∧ Sli h' esz s' (l ++ m) ∧ Mod s.blk h h' := by
  obtain ⟨len, el, kl, _⟩ := xa.len
  obtain ⟨n, en, kn, _⟩ := xb.len
  have ok := hok n len el en
  have e0 : ∀ k : K, o_app esz by_ s x h k = doApp h esz s m n k := fun k => by
    unfold o_app
    rw [kl, kn, xb.elems (by omega) hp, ← en, List.take_length, ok]; rfl
  cases xa with
  | nil =>
    have hl0 : len = 0 := by
      have el : 0 = len * esz := el
      rcases Nat.eq_zero_or_pos len with h0 | h0
      · exact h0
      · have := Nat.mul_pos h0 hp; omega
    subst hl0
    cases n with
    | zero =>
      have hm : m = [] := List.eq_nil_of_length_eq_zero (by omega)
      subst hm
      exact ⟨.nils, h, fun k => by rw [e0]; rfl, .nil, .refl h⟩
    | succ n =>
      refine ⟨.sl h.nx 0 (n + 1) (n + 1) (some esz), h.push (mkO m), fun k => by
        rw [e0]
        show h.alloc (mkO m) (fun r h' => k (.sl r 0 (n + 1) (n + 1) (some esz)) h') = _
        exact H.alloc_eq h _ _, ?_, Mod.push _ _⟩
      have := Sli.sl (esz := esz) (n := n + 1) (cap := n + 1) (o := 0) (fx := some esz) (Cells.new h m) (Nat.le_refl _) (by omega) fun e he => ⟨(Option.some.inj he).symm, rfl⟩
      rw [List.drop_zero, ← en, List.take_length] at this
      simpa using this
  | @sl b o n' cap fx L c hn ho hf =>
    have hn' : n' = len := by
      have := kl (fun z => some (.int .i64 z, h))
      have this : some (V.int .i64 n', h) = some (V.int .i64 len, h) := this
      simp at this; omega
    subst hn'
    have hmul := Nat.mul_le_mul_right esz hn
    cases hble : Nat.ble (Nat.add n' n) cap with
    | true =>
      have hle : n' + n ≤ cap := Nat.le_of_ble_eq_true hble
      have hm2 := Nat.mul_le_mul_right esz hle
      rw [Nat.add_mul] at hm2
      refine ⟨.sl b o (n' + n) cap fx, h.wn b (o + n' * esz) m, fun k => ?_, ?_, (Mod.wn h b _ m)⟩
      · rw [e0]
        show Bool.rec (motive := fun _ => R) _ (h.stn b (Nat.add o (Nat.mul n' esz)) m fun h' => k (.sl b o (Nat.add n' n) cap fx) h') (Nat.ble (Nat.add n' n) cap) = _
        rw [hble]
        show h.stn b (o + n' * esz) m (fun h' => k (.sl b o (n' + n) cap fx) h') = _
        exact c.stn (by omega) h1 _
      · have hle2 : o + n' * esz + m.length ≤ L.length := by omega
        have := Sli.sl (esz := esz) (n := n' + n) (cap := cap) (o := o) (fx := fx) (c.wn (i := o + n' * esz) (vs := m) hle2 h1) hle (by rw [over_length hle2]; exact ho) fun e he => by
          obtain ⟨q1, q2⟩ := hf e he
          exact ⟨q1, by omega⟩
        have e : (List.drop o (over L (o + n' * esz) m)).take ((n' + n) * esz) = (L.drop o).take (n' * esz) ++ m := by
          apply List.ext_getElem?
          intro j
          rw [Nat.add_mul]
          by_cases hj : j < n' * esz + n * esz
          · rw [List.getElem?_take_of_lt hj, List.getElem?_drop, over_get hle2]
            by_cases hj2 : j < n' * esz
            · rw [if_neg (by omega), List.getElem?_append_left (by simp; omega), List.getElem?_take_of_lt hj2, List.getElem?_drop]
            · rw [if_pos (by omega), List.getElem?_append_right (by simp; omega)]
              congr 1; simp; omega
          · rw [List.getElem?_eq_none (by simp; omega), List.getElem?_eq_none (by simp; omega)]
        rw [e] at this; exact this
    | false =>
      have e1 : ∀ k : K, doApp h esz (.sl b o n' cap fx) m n k = Option.rec (motive := fun _ => R) (h.alloc (mkO (Ab.app ((L.drop o).take (n' * esz)) m)) fun r h' => k (.sl r 0 (Nat.add n' n) (Nat.add n' n) (some esz)) h')
          (fun e => ifK (Nat.beq e esz) <| h.getK b fun ob => ifK ob.isCB ((h.put b .dead).alloc (mkO (Ab.app ((L.drop o).take (n' * esz)) m)) fun r h' => k (.sl r 0 (Nat.add n' n) (Nat.add n' n) (some esz)) h')) fx := fun k => by
        show Bool.rec (motive := fun _ => R) (h.ldn b o (Nat.mul n' esz) fun old => _) _ (Nat.ble (Nat.add n' n) cap) = _
        rw [hble]
        exact c.ldn (by omega : o + n' * esz ≤ L.length) _
      have fin : ∀ h1 : H, h1.nx = h.nx → Sli (h1.push (mkO ((L.drop o).take (n' * esz) ++ m))) esz (.sl h1.nx 0 (n' + n) (n' + n) (some esz)) ((L.drop o).take (n' * esz) ++ m) := fun h1 _ => by
        have hlen : ((L.drop o).take (n' * esz) ++ m).length = (n' + n) * esz := by rw [List.length_append, el, en, Nat.add_mul]
        have := Sli.sl (esz := esz) (n := n' + n) (cap := n' + n) (o := 0) (fx := some esz) (Cells.new h1 ((L.drop o).take (n' * esz) ++ m)) (Nat.le_refl _) (by omega) fun e he => ⟨(Option.some.inj he).symm, rfl⟩
        rw [List.drop_zero, ← hlen, List.take_length] at this
        exact this
      cases fx with
      | none =>
        refine ⟨_, _, fun k => ?_, fin h rfl, Mod.push _ _⟩
        rw [e0, e1, app_eq]
        show h.alloc _ (fun r h' => k (.sl r 0 (n' + n) (n' + n) (some esz)) h') = _
        exact H.alloc_eq h _ _
      | some f =>
        obtain ⟨q1, q2⟩ := hf f rfl
        subst q1
        obtain ⟨ob, g1, g2, _, _⟩ := c.ex
        refine ⟨_, _, fun k => ?_, fin (h.put b .dead) (by simp), (Mod.put h b .dead).trans (Mod.push _ _)⟩
        rw [e0, e1, app_eq]
        show ifK (Nat.beq f f) _ = _
        rw [Nat.beq_refl]
        show h.getK b _ = _
        rw [H.getK_of g1]
        have : ob.isCB = true := by cases ob <;> first | rfl | cases g2
        rw [this]
        show (h.put b .dead).alloc _ (fun r h' => k (.sl r 0 (n' + n) (n' + n) (some f)) h') = _
        exact H.alloc_eq _ _ _
/-! a cell of a row that is written out -/
noncomputable def o_nth (l : List V) (i : Nat) (h : H) (k : K) : R := nthK l i fun v => k v h
theorem nth_0 (a0 : V) (l : List V) (h : H) (k : K) : o_nth (a0 :: l) 0 h k = k a0 h := (rfl)
theorem nth_1 (a0 a1 : V) (l : List V) (h : H) (k : K) : o_nth (a0 :: a1 :: l) 1 h k = k a1 h := (rfl)
theorem nth_2 (a0 a1 a2 : V) (l : List V) (h : H) (k : K) : o_nth (a0 :: a1 :: a2 :: l) 2 h k = k a2 h := (rfl)
theorem nth_3 (a0 a1 a2 a3 : V) (l : List V) (h : H) (k : K) : o_nth (a0 :: a1 :: a2 :: a3 :: l) 3 h k = k a3 h := (rfl)
theorem nth_4 (a0 a1 a2 a3 a4 : V) (l : List V) (h : H) (k : K) : o_nth (a0 :: a1 :: a2 :: a3 :: a4 :: l) 4 h k = k a4 h := (rfl)
theorem nth_5 (a0 a1 a2 a3 a4 a5 : V) (l : List V) (h : H) (k : K) : o_nth (a0 :: a1 :: a2 :: a3 :: a4 :: a5 :: l) 5 h k = k a5 h := (rfl)
theorem nth_6 (a0 a1 a2 a3 a4 a5 a6 : V) (l : List V) (h : H) (k : K) : o_nth (a0 :: a1 :: a2 :: a3 :: a4 :: a5 :: a6 :: l) 6 h k = k a6 h := (rfl)
theorem nth_7 (a0 a1 a2 a3 a4 a5 a6 a7 : V) (l : List V) (h : H) (k : K) : o_nth (a0 :: a1 :: a2 :: a3 :: a4 :: a5 :: a6 :: a7 :: l) 7 h k = k a7 h := (rfl)
theorem nth_8 (a0 a1 a2 a3 a4 a5 a6 a7 a8 : V) (l : List V) (h : H) (k : K) : o_nth (a0 :: a1 :: a2 :: a3 :: a4 :: a5 :: a6 :: a7 :: a8 :: l) 8 h k = k a8 h := (rfl)
theorem nth_9 (a0 a1 a2 a3 a4 a5 a6 a7 a8 a9 : V) (l : List V) (h : H) (k : K) : o_nth (a0 :: a1 :: a2 :: a3 :: a4 :: a5 :: a6 :: a7 :: a8 :: a9 :: l) 9 h k = k a9 h := (rfl)
theorem nth_10 (a0 a1 a2 a3 a4 a5 a6 a7 a8 a9 a10 : V) (l : List V) (h : H) (k : K) : o_nth (a0 :: a1 :: a2 :: a3 :: a4 :: a5 :: a6 :: a7 :: a8 :: a9 :: a10 :: l) 10 h k = k a10 h := (rfl)
theorem nth_11 (a0 a1 a2 a3 a4 a5 a6 a7 a8 a9 a10 a11 : V) (l : List V) (h : H) (k : K) : o_nth (a0 :: a1 :: a2 :: a3 :: a4 :: a5 :: a6 :: a7 :: a8 :: a9 :: a10 :: a11 :: l) 11 h k = k a11 h := (rfl)
theorem nth_12 (a0 a1 a2 a3 a4 a5 a6 a7 a8 a9 a10 a11 a12 : V) (l : List V) (h : H) (k : K) : o_nth (a0 :: a1 :: a2 :: a3 :: a4 :: a5 :: a6 :: a7 :: a8 :: a9 :: a10 :: a11 :: a12 :: l) 12 h k = k a12 h := (rfl)
theorem nth_13 (a0 a1 a2 a3 a4 a5 a6 a7 a8 a9 a10 a11 a12 a13 : V) (l : List V) (h : H) (k : K) : o_nth (a0 :: a1 :: a2 :: a3 :: a4 :: a5 :: a6 :: a7 :: a8 :: a9 :: a10 :: a11 :: a12 :: a13 :: l) 13 h k = k a13 h := (rfl)
theorem nth_14 (a0 a1 a2 a3 a4 a5 a6 a7 a8 a9 a10 a11 a12 a13 a14 : V) (l : List V) (h : H) (k : K) : o_nth (a0 :: a1 :: a2 :: a3 :: a4 :: a5 :: a6 :: a7 :: a8 :: a9 :: a10 :: a11 :: a12 :: a13 :: a14 :: l) 14 h k = k a14 h := (rfl)
theorem nth_15 (a0 a1 a2 a3 a4 a5 a6 a7 a8 a9 a10 a11 a12 a13 a14 a15 : V) (l : List V) (h : H) (k : K) : o_nth (a0 :: a1 :: a2 :: a3 :: a4 :: a5 :: a6 :: a7 :: a8 :: a9 :: a10 :: a11 :: a12 :: a13 :: a14 :: a15 :: l) 15 h k = k a15 h := (rfl)
theorem nth_16 (a0 a1 a2 a3 a4 a5 a6 a7 a8 a9 a10 a11 a12 a13 a14 a15 a16 : V) (l : List V) (h : H) (k : K) : o_nth (a0 :: a1 :: a2 :: a3 :: a4 :: a5 :: a6 :: a7 :: a8 :: a9 :: a10 :: a11 :: a12 :: a13 :: a14 :: a15 :: a16 :: l) 16 h k = k a16 h := (rfl)
theorem nth_17 (a0 a1 a2 a3 a4 a5 a6 a7 a8 a9 a10 a11 a12 a13 a14 a15 a16 a17 : V) (l : List V) (h : H) (k : K) : o_nth (a0 :: a1 :: a2 :: a3 :: a4 :: a5 :: a6 :: a7 :: a8 :: a9 :: a10 :: a11 :: a12 :: a13 :: a14 :: a15 :: a16 :: a17 :: l) 17 h k = k a17 h := (rfl)
theorem nth_18 (a0 a1 a2 a3 a4 a5 a6 a7 a8 a9 a10 a11 a12 a13 a14 a15 a16 a17 a18 : V) (l : List V) (h : H) (k : K) : o_nth (a0 :: a1 :: a2 :: a3 :: a4 :: a5 :: a6 :: a7 :: a8 :: a9 :: a10 :: a11 :: a12 :: a13 :: a14 :: a15 :: a16 :: a17 :: a18 :: l) 18 h k = k a18 h := (rfl)
theorem nth_19 (a0 a1 a2 a3 a4 a5 a6 a7 a8 a9 a10 a11 a12 a13 a14 a15 a16 a17 a18 a19 : V) (l : List V) (h : H) (k : K) : o_nth (a0 :: a1 :: a2 :: a3 :: a4 :: a5 :: a6 :: a7 :: a8 :: a9 :: a10 :: a11 :: a12 :: a13 :: a14 :: a15 :: a16 :: a17 :: a18 :: a19 :: l) 19 h k = k a19 h := (rfl)
theorem nth_20 (a0 a1 a2 a3 a4 a5 a6 a7 a8 a9 a10 a11 a12 a13 a14 a15 a16 a17 a18 a19 a20 : V) (l : List V) (h : H) (k : K) : o_nth (a0 :: a1 :: a2 :: a3 :: a4 :: a5 :: a6 :: a7 :: a8 :: a9 :: a10 :: a11 :: a12 :: a13 :: a14 :: a15 :: a16 :: a17 :: a18 :: a19 :: a20 :: l) 20 h k = k a20 h := (rfl)
theorem nth_21 (a0 a1 a2 a3 a4 a5 a6 a7 a8 a9 a10 a11 a12 a13 a14 a15 a16 a17 a18 a19 a20 a21 : V) (l : List V) (h : H) (k : K) : o_nth (a0 :: a1 :: a2 :: a3 :: a4 :: a5 :: a6 :: a7 :: a8 :: a9 :: a10 :: a11 :: a12 :: a13 :: a14 :: a15 :: a16 :: a17 :: a18 :: a19 :: a20 :: a21 :: l) 21 h k = k a21 h := (rfl)
theorem nth_22 (a0 a1 a2 a3 a4 a5 a6 a7 a8 a9 a10 a11 a12 a13 a14 a15 a16 a17 a18 a19 a20 a21 a22 : V) (l : List V) (h : H) (k : K) : o_nth (a0 :: a1 :: a2 :: a3 :: a4 :: a5 :: a6 :: a7 :: a8 :: a9 :: a10 :: a11 :: a12 :: a13 :: a14 :: a15 :: a16 :: a17 :: a18 :: a19 :: a20 :: a21 :: a22 :: l) 22 h k = k a22 h := (rfl)
theorem nth_23 (a0 a1 a2 a3 a4 a5 a6 a7 a8 a9 a10 a11 a12 a13 a14 a15 a16 a17 a18 a19 a20 a21 a22 a23 : V) (l : List V) (h : H) (k : K) : o_nth (a0 :: a1 :: a2 :: a3 :: a4 :: a5 :: a6 :: a7 :: a8 :: a9 :: a10 :: a11 :: a12 :: a13 :: a14 :: a15 :: a16 :: a17 :: a18 :: a19 :: a20 :: a21 :: a22 :: a23 :: l) 23 h k = k a23 h := (rfl)
theorem Cells.ld {h : H} {b : Pos} {l : List V} (c : Cells h b l) {i : Nat} (k : K) (hi : i < l.length) : o_ld1 (.ptr b i) h k = o_nth l i h k := by
  show h.ld1 b i (fun v => k v h) = nthK l i fun v => k v h
  rw [c.ld1 (List.getElem?_eq_getElem hi), nthK_eq (List.getElem?_eq_getElem hi)]
theorem Cells.ldv {h : H} {b : Pos} {l : List V} (c : Cells h b l) {i : Nat} {v : V} (k : K) (hi : l[i]? = some v) : o_ld1 (.ptr b i) h k = k v h := c.ld1 hi _
theorem Cells.lda {h : H} {b : Pos} {l : List V} (c : Cells h b l) {n : Nat} (k : K) (hn : n = l.length) : o_ldn n (.ptr b 0) h k = k (.agg l) h := by
  show h.ldn b 0 n (fun vs => k (.agg vs) h) = _
  rw [c.ldn (by omega)]; subst hn; simp
theorem Cells.ldp {h : H} {b : Pos} {l : List V} (c : Cells h b l) {i n : Nat} (k : K) (hn : i + n ≤ l.length) : o_ldn n (.ptr b i) h k = k (.agg ((l.drop i).take n)) h := c.ldn hn _
theorem Cells.st {h : H} {b : Pos} {l : List V} (c : Cells h b l) {i : Nat} {v : V} (k : K) (hi : i < l.length) (h1 : v.one = true) : o_st1 (.ptr b i) v h k = k (.tup []) (h.wn b i [v]) := c.st1 hi h1 _
theorem Cells.sta {h : H} {b : Pos} {l : List V} (c : Cells h b l) {i n : Nat} {vs : List V} (k : K) (hn : vs.length = n) (hi : i + n ≤ l.length) (h1 : ∀ v ∈ vs, v.one = true) : o_stn n (.ptr b i) (.agg vs) h k = k (.tup []) (h.wn b i vs) := by
  show ifK (Nat.beq (llen vs) n) (h.stn b i vs fun h' => k (.tup []) h') = _
  rw [llen_eq, hn, Nat.beq_refl]
  exact c.stn (by omega) h1 _
theorem fld_v {off : Nat} {c : List V} (h : H) (k : K) : o_fld none off (.agg c) h k = o_nth c off h k := (rfl)
theorem box_agg {c : List V} (h : H) (k : K) : o_box (.agg c) h k = k (.ptr h.nx 0) (h.push (mkO c)) := H.alloc_eq h (mkO c) fun r h' => k (.ptr r 0) h'
theorem box_int (j : IntKind) (n : Int) (h : H) (k : K) : o_box (.int j n) h k = k (.ptr h.nx 0) (h.push (mkO [.int j n])) := H.alloc_eq h (mkO [.int j n]) fun r h' => k (.ptr r 0) h'
theorem box_bool (b : Bool) (h : H) (k : K) : o_box (.bool b) h k = k (.ptr h.nx 0) (h.push (mkO [.bool b])) := H.alloc_eq h (mkO [.bool b]) fun r h' => k (.ptr r 0) h'
theorem box_ptr (b : Pos) (i : Nat) (h : H) (k : K) : o_box (.ptr b i) h k = k (.ptr h.nx 0) (h.push (mkO [.ptr b i])) := H.alloc_eq h (mkO [.ptr b i]) fun r h' => k (.ptr r 0) h'
theorem box_sl (b : Pos) (o n c : Nat) (f : Option Nat) (h : H) (k : K) : o_box (.sl b o n c f) h k = k (.ptr h.nx 0) (h.push (mkO [.sl b o n c f])) := H.alloc_eq h (mkO [.sl b o n c f]) fun r h' => k (.ptr r 0) h'
theorem eqv_bb (neg : Bool) (a b : Bool) (h : H) (k : K) : o_eqv 0 neg (.bool a) (.bool b) h k = k (.bool (neg != decide (a = b))) h := by
  show ifK (Nat.beq 0 0) (k (.bool (negIf neg (beqB a b))) h) = _
  rw [negIf_eq, beqB_eq]
  cases neg <;> cases a <;> cases b <;> rfl

/-! a region that draws its order -/
noncomputable def kD (S : Sy) (late : Nat) (op : IOp) (ops : List IOpr) (E : Env) (p : List Pend) (d : Option Pos) (t : Tr V) (k : T → H → R) : K := fun v h => opersD S ops E (pendAdd late op t v p) (tset d v t) h k
noncomputable def reD (S : Sy) (E : Env) (h : H) (acc p : List Pend) (ops : List IOpr) (t : Tr V) (k : T → H → R) : R := rechk S E h p fun p' => opersD S ops E (acc ++ p') t h k
noncomputable def kW (S : Sy) (ops : List IOpr) (E : Env) (p : List Pend) (d : Option Pos) (t : Tr V) (k : T → H → R) : K := fun v h => reD S E h [] p ops (tset d v t) k
noncomputable def kRe (S : Sy) (E : Env) (h : H) (n : Nat) (op : IOp) (t : Tr V) (v : V) (acc p : List Pend) (ops : List IOpr) (t' : Tr V) (k : T → H → R) : K := fun v' _ => ifK (vsame v v') (reD S E h (acc ++ [⟨n, op, t, v⟩]) p ops t' k)
noncomputable def wantD (S : Sy) (g : V) (w : Bool) (late : Nat) (d : Option Pos) (op : IOp) (ops : List IOpr) (E : Env) (p : List Pend) (t : Tr V) (h : H) (k : T → H → R) : R :=
  o_want g w (opersD S ops E p (tset d (.tup []) t) h k) (exec S E op t h (kD S late op ops E p d t k))
noncomputable def wantW (S : Sy) (g : V) (w : Bool) (d : Option Pos) (op : IOp) (ops : List IOpr) (E : Env) (p : List Pend) (t : Tr V) (h : H) (k : T → H → R) : R :=
  o_want g w (reD S E h [] p ops (tset d (.tup []) t) k) (exec S E op t h (kW S ops E p d t k))
section
variable (S : Sy) (E : Env) (p : List Pend) (t : Tr V) (h : H) (k : T → H → R)
theorem ap_kD (late : Nat) (op : IOp) (ops : List IOpr) (d : Option Pos) (v : V) : kD S late op ops E p d t k v h = opersD S ops E (pendAdd late op t v p) (tset d v t) h k := (rfl)
theorem ap_kW (ops : List IOpr) (d : Option Pos) (v : V) : kW S ops E p d t k v h = reD S E h [] p ops (tset d v t) k := (rfl)
theorem ap_kRe (n : Nat) (op : IOp) (v : V) (acc : List Pend) (ops : List IOpr) (t' : Tr V) (v' : V) (h' : H) (e : vsame v v' = true) : kRe S E h n op t v acc p ops t' k v' h' = reD S E h (acc ++ [⟨n, op, t, v⟩]) p ops t' k := by
  show ifK (vsame v v') _ = _
  rw [e]; rfl
theorem od_nil : opersD S [] E p t h k = k t h := (rfl)
theorem isK3_lo {op : IOp} (hk : Nat.ble op.kind 2 = true) (a b : R) : isK3 op a b = b := by
  rw [isK3_eq no_nat, if_neg (by rw [Nat.ble_eq] at hk; omega)]
theorem isK3_hi {op : IOp} (hk : Nat.beq op.kind 3 = true) (a b : R) : isK3 op a b = a := by
  rw [isK3_eq no_nat, if_pos (Nat.eq_of_beq_eq_true hk)]
theorem mkOk_lo {op : IOp} (hk : Nat.ble op.kind 1 = true) (h : H) : mkOk op h = true := by
  unfold mkOk
  have : Nat.beq op.kind 2 = false := by
    cases e : Nat.beq op.kind 2 with
    | false => rfl
    | true => have := Nat.eq_of_beq_eq_true e; rw [Nat.ble_eq] at hk; omega
  rw [this]
theorem od_r {d : Option Pos} {late : Nat} {op : IOp} {ops : List IOpr} (hk : Nat.ble op.kind 1 = true) : opersD S (⟨d, none, late, op⟩ :: ops) E p t h k = exec S E op t h (kD S late op ops E p d t k) := by
  show exec S E op t h (fun v h' => isK3 op (rechk S E h' p fun pend' => opersD S ops E pend' (tset d v t) h' k) (ifK (mkOk op h) (opersD S ops E (pendAdd late op t v p) (tset d v t) h' k))) = _
  have h2 : Nat.ble op.kind 2 = true := by rw [Nat.ble_eq] at hk ⊢; omega
  simp only [isK3_lo h2, mkOk_lo hk]; rfl
theorem od_m {d : Option Pos} {op : IOp} {ops : List IOpr} (hk : Nat.beq op.kind 2 = true) (hf : h.fresh = true) : opersD S (⟨d, none, 0, op⟩ :: ops) E p t h k = exec S E op t h (kD S 0 op ops E p d t k) := by
  show exec S E op t h (fun v h' => isK3 op (rechk S E h' p fun pend' => opersD S ops E pend' (tset d v t) h' k) (ifK (mkOk op h) (opersD S ops E p (tset d v t) h' k))) = _
  have h2 : Nat.ble op.kind 2 = true := by have := Nat.eq_of_beq_eq_true hk; rw [Nat.ble_eq]; omega
  have h3 : mkOk op h = true := by unfold mkOk; rw [hk]; exact hf
  simp only [isK3_lo h2, h3]; rfl
theorem od_w {d : Option Pos} {late : Nat} {op : IOp} {ops : List IOpr} (hk : Nat.beq op.kind 3 = true) : opersD S (⟨d, none, late, op⟩ :: ops) E p t h k = exec S E op t h (kW S ops E p d t k) := by
  show exec S E op t h (fun v h' => isK3 op (rechk S E h' p fun pend' => opersD S ops E pend' (tset d v t) h' k) (ifK (mkOk op h) (opersD S ops E (pendAdd late op t v p) (tset d v t) h' k))) = _
  simp only [isK3_hi hk]; rfl
theorem od_gw {d : Option Pos} {q : Nat} {w : Bool} {late : Nat} {op : IOp} {ops : List IOpr} (hk : Nat.beq op.kind 3 = true) : opersD S (⟨d, some (Pos.of q, w), late, op⟩ :: ops) E p t h k = wantW S (t.v q) w d op ops E p t h k := by
  show o_want (t.v q) w (isK3 op (rechk S E h p fun pend' => opersD S ops E pend' (tset d (.tup []) t) h k) (opersD S ops E p (tset d (.tup []) t) h k)) (exec S E op t h (fun v h' => isK3 op (rechk S E h' p fun pend' => opersD S ops E pend' (tset d v t) h' k) (ifK (mkOk op h) (opersD S ops E (pendAdd late op t v p) (tset d v t) h' k)))) = _
  simp only [isK3_hi hk]; rfl
theorem od_gr {d : Option Pos} {q : Nat} {w : Bool} {late : Nat} {op : IOp} {ops : List IOpr} (hk : Nat.ble op.kind 1 = true) : opersD S (⟨d, some (Pos.of q, w), late, op⟩ :: ops) E p t h k = wantD S (t.v q) w late d op ops E p t h k := by
  show o_want (t.v q) w (isK3 op (rechk S E h p fun pend' => opersD S ops E pend' (tset d (.tup []) t) h k) (opersD S ops E p (tset d (.tup []) t) h k)) (exec S E op t h (fun v h' => isK3 op (rechk S E h' p fun pend' => opersD S ops E pend' (tset d v t) h' k) (ifK (mkOk op h) (opersD S ops E (pendAdd late op t v p) (tset d v t) h' k)))) = _
  have h2 : Nat.ble op.kind 2 = true := by rw [Nat.ble_eq] at hk ⊢; omega
  simp only [isK3_lo h2, mkOk_lo hk]; rfl
theorem reD_nil (acc : List Pend) (ops : List IOpr) : reD S E h acc [] ops t k = opersD S ops E acc t h k := by
  show opersD S ops E (acc ++ []) t h k = _
  rw [List.append_nil]
theorem reD_0 (acc : List Pend) (op : IOp) (t0 : Tr V) (v : V) (l : List Pend) (ops : List IOpr) : reD S E h acc (⟨0, op, t0, v⟩ :: l) ops t k = reD S E h acc l ops t k := (rfl)
theorem reD_s (acc : List Pend) (n : Nat) (op : IOp) (t0 : Tr V) (v : V) (l : List Pend) (ops : List IOpr) : reD S E h acc (⟨n + 1, op, t0, v⟩ :: l) ops t k = exec S E op t0 h (kRe S E h n op t0 v acc l ops t k) := by
  show exec S E op t0 h (fun v' _ => ifK (vsame v v') (rechk S E h l fun l' => opersD S ops E (acc ++ ⟨n, op, t0, v⟩ :: l') t h k)) = _
  congr 1
  funext v' h'
  show _ = ifK (vsame v v') (rechk S E h l fun p' => opersD S ops E (acc ++ [⟨n, op, t0, v⟩] ++ p') t h k)
  simp only [List.append_assoc, List.singleton_append]
theorem reD_1 (acc : List Pend) (op : IOp) (t0 : Tr V) (v : V) (l : List Pend) (ops : List IOpr) : reD S E h acc (⟨1, op, t0, v⟩ :: l) ops t k = exec S E op t0 h (kRe S E h 0 op t0 v acc l ops t k) := reD_s S E t h k acc 0 op t0 v l ops
theorem reD_2 (acc : List Pend) (op : IOp) (t0 : Tr V) (v : V) (l : List Pend) (ops : List IOpr) : reD S E h acc (⟨2, op, t0, v⟩ :: l) ops t k = exec S E op t0 h (kRe S E h 1 op t0 v acc l ops t k) := reD_s S E t h k acc 1 op t0 v l ops
theorem pendAdd_0 (op : IOp) (v : V) : pendAdd 0 op t v p = p := (rfl)
theorem pendAdd_1 (op : IOp) (v : V) : pendAdd 1 op t v p = ⟨1, op, t, v⟩ :: p := (rfl)
theorem pendAdd_2 (op : IOp) (v : V) : pendAdd 2 op t v p = ⟨2, op, t, v⟩ :: p := (rfl)
variable (d : Option Pos) (op : IOp) (ops : List IOpr) (late : Nat)
theorem wd_tup (w : Bool) (l : List V) : wantD S (.tup l) w late d op ops E p t h k = opersD S ops E p (tset d (.tup []) t) h k := (rfl)
theorem wd_bt {c : Bool} (e : c = true) : wantD S (.bool c) true late d op ops E p t h k = exec S E op t h (kD S late op ops E p d t k) := want_tt e _ _
theorem wd_bnt {c : Bool} (e : c = false) : wantD S (.bool c) true late d op ops E p t h k = opersD S ops E p (tset d (.tup []) t) h k := want_ft e _ _
theorem wd_bf {c : Bool} (e : c = true) : wantD S (.bool c) false late d op ops E p t h k = opersD S ops E p (tset d (.tup []) t) h k := want_tf e _ _
theorem wd_bnf {c : Bool} (e : c = false) : wantD S (.bool c) false late d op ops E p t h k = exec S E op t h (kD S late op ops E p d t k) := want_ff e _ _
theorem wd_pt {q : Prop} [Decidable q] (e : q) : wantD S (.bool (decide q)) true late d op ops E p t h k = exec S E op t h (kD S late op ops E p d t k) := want_tt (decide_eq_true e) _ _
theorem wd_nt {q : Prop} [Decidable q] (e : ¬q) : wantD S (.bool (decide q)) true late d op ops E p t h k = opersD S ops E p (tset d (.tup []) t) h k := want_ft (decide_eq_false e) _ _
theorem wd_pf {q : Prop} [Decidable q] (e : q) : wantD S (.bool (decide q)) false late d op ops E p t h k = opersD S ops E p (tset d (.tup []) t) h k := want_tf (decide_eq_true e) _ _
theorem wd_nf {q : Prop} [Decidable q] (e : ¬q) : wantD S (.bool (decide q)) false late d op ops E p t h k = exec S E op t h (kD S late op ops E p d t k) := want_ff (decide_eq_false e) _ _
theorem ww_tup (w : Bool) (l : List V) : wantW S (.tup l) w d op ops E p t h k = reD S E h [] p ops (tset d (.tup []) t) k := (rfl)
theorem ww_bt {c : Bool} (e : c = true) : wantW S (.bool c) true d op ops E p t h k = exec S E op t h (kW S ops E p d t k) := want_tt e _ _
theorem ww_bnt {c : Bool} (e : c = false) : wantW S (.bool c) true d op ops E p t h k = reD S E h [] p ops (tset d (.tup []) t) k := want_ft e _ _
theorem ww_bf {c : Bool} (e : c = true) : wantW S (.bool c) false d op ops E p t h k = reD S E h [] p ops (tset d (.tup []) t) k := want_tf e _ _
theorem ww_bnf {c : Bool} (e : c = false) : wantW S (.bool c) false d op ops E p t h k = exec S E op t h (kW S ops E p d t k) := want_ff e _ _
theorem ww_pt {q : Prop} [Decidable q] (e : q) : wantW S (.bool (decide q)) true d op ops E p t h k = exec S E op t h (kW S ops E p d t k) := want_tt (decide_eq_true e) _ _
theorem ww_nt {q : Prop} [Decidable q] (e : ¬q) : wantW S (.bool (decide q)) true d op ops E p t h k = reD S E h [] p ops (tset d (.tup []) t) k := want_ft (decide_eq_false e) _ _
theorem ww_pf {q : Prop} [Decidable q] (e : q) : wantW S (.bool (decide q)) false d op ops E p t h k = reD S E h [] p ops (tset d (.tup []) t) k := want_tf (decide_eq_true e) _ _
theorem ww_nf {q : Prop} [Decidable q] (e : ¬q) : wantW S (.bool (decide q)) false d op ops E p t h k = exec S E op t h (kW S ops E p d t k) := want_ff (decide_eq_false e) _ _
end
theorem ifK_t {b : Bool} (e : b = true) (k : R) : ifK b k = k := by subst e; rfl
theorem vsame_int (j : IntKind) (n : Int) : vsame1 (.int j n) (.int j n) = true := by
  show andB (kbeq j j) (ieq n n) = true
  rw [andB_iff, ieq_eq, kbeq_iff]; simp
theorem vsame_bool (b : Bool) : vsame1 (.bool b) (.bool b) = true := by cases b <;> rfl
theorem vsame_row : ∀ {l : List V}, (∀ v ∈ l, (∃ j n, v = .int j n) ∨ ∃ b, v = .bool b) → vsameL l l = true
  | [], _ => rfl
  | v :: l, h => by
    show andB (vsame1 v v) (vsameL l l) = true
    rw [andB_iff]
    refine ⟨?_, vsame_row fun u hu => h u (by simp [hu])⟩
    rcases h v (by simp) with ⟨j, n, rfl⟩ | ⟨b, rfl⟩
    · exact vsame_int j n
    · exact vsame_bool b
/-- nothing lies ahead -/
def Ahead (h : H) : Prop := ∀ q, h.nx.toNat ≤ q.toNat → h.get q = none
theorem Ahead.fresh {h : H} (a : Ahead h) : h.fresh = true := by
  have e := a h.nx (Nat.le_refl _)
  cases h with
  | mk nx m =>
    show Option.rec (motive := fun _ => Bool) true (fun _ => false) (m.getO nx) = true
    rw [Tr.getO_eq]
    have e : m.get nx = none := e
    rw [e]
theorem Ahead.push {h : H} (a : Ahead h) (o : O) : Ahead (h.push o) := fun q hq => by
  rw [H.nx_push, Pos.toNat_succ] at hq
  rw [H.get_push_ne _ _ _ fun e => by subst e; omega]; exact a q (by omega)
theorem Ahead.wn {h : H} (a : Ahead h) {b : Pos} (hb : b.toNat < h.nx.toNat) (i : Nat) (vs : List V) : Ahead (h.wn b i vs) := fun q hq => by
  rw [H.nx_wn] at hq
  rw [H.get_wn_ne _ _ _ fun e => by subst e; omega]; exact a q hq
theorem Ahead.put {h : H} (a : Ahead h) {b : Pos} (hb : b.toNat < h.nx.toNat) (o : O) : Ahead (h.put b o) := fun q hq => by
  rw [H.nx_put] at hq
  rw [H.get_put_ne _ _ _ _ fun e => by subst e; omega]; exact a q hq
/-- temporaries below a number, but for some, are as they were -/
def Kp (lo : Nat) (ex : List Nat) (t t' : Tr V) : Prop := ∀ q, q < lo → q ∉ ex → t'.v q = t.v q
theorem Kp.refl (lo : Nat) (ex : List Nat) (t : Tr V) : Kp lo ex t t := fun _ _ _ => rfl
theorem Kp.trans {lo : Nat} {ex : List Nat} {a b c : Tr V} (x : Kp lo ex a b) (y : Kp lo ex b c) : Kp lo ex a c := fun q h1 h2 => (y q h1 h2).trans (x q h1 h2)
theorem Kp.weaken {lo lo' : Nat} {ex ex' : List Nat} {a b : Tr V} (x : Kp lo ex a b) (h1 : lo' ≤ lo) (h2 : ∀ q ∈ ex, q ∈ ex') : Kp lo' ex' a b := fun q h3 h4 => x q (Nat.lt_of_lt_of_le h3 h1) fun h => h4 (h2 q h)
theorem Tr.v_ne' {p q : Nat} (t : Tr V) (v : V) (h : q ≠ p) : (t.st q v).v p = t.v p := Tr.v_ne t v (by
  cases e : Nat.beq q p with
  | false => rfl
  | true => exact absurd (Nat.eq_of_beq_eq_true e) h)
theorem Kp.st {lo : Nat} {ex : List Nat} {t t' : Tr V} (x : Kp lo ex t t') {p : Nat} {v : V} (hp : Nat.ble lo p = true ∨ p ∈ ex) : Kp lo ex t (t'.st p v) := fun q h1 h2 => by
  rw [Tr.v_ne' _ _ fun e => ?_]; exact x q h1 h2
  subst e
  rcases hp with h | h
  · rw [Nat.ble_eq] at h; omega
  · exact h2 h
/-- a piece of code goes on to what was found -/
theorem to_of {S : Sy} {E : Env} {c : IC} {t : Tr V} {h : H} {Q : Tr V → H → Prop} {t1 : Tr V} {h1 : H} (e : ∀ (kn : T → H → R) (kx : Option Nat → T → H → R), code S c E t h kn kx = kn t1 h1) (p : Q t1 h1) :
    ∃ t' h', (∀ (kn : T → H → R) (kx : Option Nat → T → H → R), code S c E t h kn kx = kn t' h') ∧ Q t' h' := ⟨t1, h1, e, p⟩
theorem Sli.at {h : H} {s : V} {l : List V} (x : Sli h 1 s l) {i : Int} {v : V} (h0 : 0 ≤ i) (e : l[i.toNat]? = some v) :
    ∃ b q, (∀ (h' : H) (k : K), o_ixs 1 s (.int .i64 i) h' k = k (.ptr b q) h') ∧ (∀ k : K, o_ld1 (.ptr b q) h k = k v h) ∧ s.blk b := by
  cases x with
  | nil => simp at e
  | @sl b o n cap fx L c hn ho hf =>
    have hlt := (List.getElem?_eq_some_iff.1 e).1
    simp at hlt
    have e2 : L[o + i.toNat * 1]? = some v := by
      rw [List.getElem?_take_of_lt (by omega), List.getElem?_drop] at e; rw [Nat.mul_one]; exact e
    exact ⟨b, o + i.toNat * 1, fun h' k => ixs_v h0 (by omega) 1 h' k, fun k => c.ldv k e2, rfl⟩
theorem to_x {S : Sy} {E : Env} {c : IC} {t : Tr V} {h : H} {x : Option Nat} {Q : Tr V → H → Prop} {t1 : Tr V} {h1 : H} (e : ∀ (kn : T → H → R) (kx : Option Nat → T → H → R), code S c E t h kn kx = kx x t1 h1) (p : Q t1 h1) :
    ∃ t' h', (∀ (kn : T → H → R) (kx : Option Nat → T → H → R), code S c E t h kn kx = kx x t' h') ∧ Q t' h' := ⟨t1, h1, e, p⟩
theorem ex_t {P Q : Tr V → Prop} {t : Tr V} (e : P t) (q : Q t) : ∃ t, P t ∧ Q t := ⟨t, e, q⟩
end Go.Ab

/- The words' laws, in one set. -/
namespace Go.Ab
attribute [go_sem ↓] ap_kOps ap_qSeq c_skip c_ret c_exit c_reg c_regd c_seq c_cond c_block blk_none blk_same blk_ne opers_nil opers_n opers_g kx_none kn_0 kn_1 kn_2 kn_3 ap_kD ap_kW ap_kRe od_nil od_r od_m od_w od_gw od_gr reD_nil reD_0 reD_1 reD_2
  ex_mv ex_pick ex_new ex_box ex_build ex_bslice ex_ld1 ex_ldn ex_st1 ex_stn ex_nilck ex_bin ex_eqv ex_eqa ex_notb ex_neg ex_conv ex_mkfn ex_mkmap ex_mkslice ex_slc ex_slca ex_fa ex_ixs ex_ixa ex_fld ex_ixv ex_lkp ex_mset ex_ext ex_call ex_app ex_copy ex_len ex_lenm ex_clear ex_del ex_capx ex_appz ex_sidx
  fillB_nil fillS_nil fillB_cons fillS_cons
attribute [go_sem] Tr.v_same Tr.v_ne ofL_nil ofL_cons tset_some tset_none ev_t ev_c evs_nil evs_cons evo_none evo_some pendAdd_0 pendAdd_1 pendAdd_2 List.nil_append
  fill1B_1 fill1S_1 fill1B_n fill1S_n call_fn lsets_nil lsets_cons
  ifC_t ifC_f ifC_b ifC_nb ifC_p ifC_n ifC_np ifC_nn pick_tt pick_ff pick_t pick_f pick_p pick_n pick_np pick_nn wo_tup wo_tt wo_ft wo_tf wo_ff wo_bt wo_bnt wo_bf wo_bnf wo_pt wo_nt wo_pf wo_nf wo_npt wo_nnt wo_npf wo_nnf
  wd_tup wd_bt wd_bnt wd_bf wd_bnf wd_pt wd_nt wd_pf wd_nf ww_tup ww_bt ww_bnt ww_bf ww_bnf ww_pt ww_nt ww_pf ww_nf notb_v
  o_add o_sub o_quo o_rem o_eql o_neq o_lss o_gtr o_leq o_geq conv_64 nilck_v fa_v ixs_v ixa_v len_sl len_nil ext_0 ext_1 ext_2 nth_0 nth_1 nth_2 nth_3 nth_4 nth_5 nth_6 nth_7 nth_8 nth_9 nth_10 nth_11 nth_12 nth_13 nth_14 nth_15 nth_16 nth_17 nth_18 nth_19 nth_20 nth_21 nth_22 nth_23 fld_v fld_n box_agg box_int box_bool box_ptr box_sl eqv_bb Nat.reduceAdd Nat.zero_add Nat.mul_one Nat.add_zero
end Go.Ab

/- A slice that comes in: a memory of one block stands for it. -/
namespace Go.Ab
section
variable {P : Program} {cx : Cx} {σ : Nat → Int}
/-- nothing is known yet -/
theorem h0_ahead : Ahead h0 := fun q _ => Tr.get_nil q
noncomputable def one1 (l : Loc) : Inj := fun x => by classical exact if x = h0.nx then some l else none
theorem one1_same (l : Loc) : one1 l h0.nx = some l := by simp [one1]
theorem one1_some {l l' : Loc} {x : Pos} (h : one1 l x = some l') : x = h0.nx ∧ l' = l := by
  unfold one1 at h
  split at h
  · rename_i e; exact ⟨e, (Option.some.inj h).symm⟩
  · cases h
/-- where only new blocks were written to, all that lay there lies there as before -/
theorem back_of {W : World} {l : Loc} {vs : List V} {c : Array Value} {ty : TypeId} {fz : Nat × Nat} (hc : W.heap[l.blk]? = some (.cells c ty fz))
    (hx : ∀ i, i < l.sz → ∃ v x, vs[i]? = some v ∧ c[l.off + i]? = some x ∧ ∀ ι y, VR σ ι v y → y = x) {h' : H} {ι' : Inj} {W' : World} (hm : Mod (fun _ => False) (h0.push (mkO vs)) h') (hr : Rel cx σ ι' h' W')
    (he : Ext (one1 l) ι' (h0.push (mkO vs)) h' W W') : W'.os = W.os ∧ W'.output = W.output ∧ W'.tape = W.tape ∧ ∀ (B : Nat) (o : Obj), W.heap[B]? = some o → W'.heap[B]? = some o := by
  refine ⟨he.os, he.out, he.tape, fun B o e => ?_⟩
  by_cases hB : B = l.blk
  · subst hB
    rw [hc] at e
    cases e
    obtain ⟨c', e1, e2, e3⟩ := he.keepC _ _ _ _ hc
    obtain rfl : c' = c := by
      apply Array.ext_getElem?
      intro i
      by_cases hi : l.off ≤ i ∧ i < l.off + l.sz
      · obtain ⟨v, x, x1, x2, x3⟩ := hx (i - l.off) (by omega)
        obtain ⟨m1, m2, m3, m4⟩ := mkO_spec vs
        have hg : h'.get h0.nx = some (mkO vs) := by
          rw [hm.get h0.nx (by rw [H.nx_push, Pos.toNat_succ]; omega) (fun x => x), H.get_push_same]
        obtain ⟨c2, ty2, fz2, q1, _, _, _, q5⟩ := (orel_cells cx σ m1).1 (hr.obj _ _ _ (he.le _ _ (one1_same l)) hg)
        rw [e1] at q1
        cases q1
        obtain ⟨x', y1, y2, _⟩ := q5 (i - l.off) v (by rw [m3 _ (List.getElem?_eq_some_iff.1 x1).1, x1])
        rw [show l.off + (i - l.off) = i by omega] at y1 x2
        rw [y1, x2, x3 _ _ y2]
      · exact e3 i fun b l' h' _ => by obtain ⟨_, rfl⟩ := one1_some h'; exact hi
    exact e1
  · exact he.keepW B o e fun b l' h' => by obtain ⟨_, rfl⟩ := one1_some h'; exact fun x => hB x.symm
/-- cells that lie there, and may be written, as a block -/
theorem arg_slice {W : World} {b off len cap esz : Nat} {vs : List V} (hl : len ≤ cap) (hz : vs.length = cap * esz) (hb : ∃ c ty fz, W.heap[b]? = some (.cells c ty fz))
    (hv : ∀ i v, vs[i]? = some v → ∃ x, W.cell? ⟨b, off + i, none⟩ = some x ∧ (∀ ι y, VR σ ι v y ↔ y = x) ∧ v.one = true) (hf : ∀ i, i < vs.length → W.frozen? ⟨b, off + i, none⟩ = false) (h0e : 0 < esz) :
    ∃ (ι : Inj) (s : V), Rel cx σ ι (h0.push (mkO vs)) W ∧ VR σ ι s (.slice (some ⟨b, off, none⟩) len cap) ∧ Sli (h0.push (mkO vs)) esz s (vs.take (len * esz)) ∧ ∀ (h' : H) (ι' : Inj) (W' : World), Mod (fun _ => False) (h0.push (mkO vs)) h' → Rel cx σ ι' h' W' → Ext ι ι' (h0.push (mkO vs)) h' W W' → W'.os = W.os ∧ W'.output = W.output ∧ W'.tape = W.tape ∧ ∀ (B : Nat) (o : Obj), W.heap[B]? = some o → W'.heap[B]? = some o := by
  obtain ⟨c, ty, fz, hc⟩ := hb
  have hlt : b < W.heap.size := lt_of_some hc
  obtain ⟨m1, m2, m3, m4⟩ := mkO_spec vs
  by_cases hq0 : cap = 0
  · subst hq0
    have hl0 : len = 0 := by omega
    subst hl0
    have hvs : vs = [] := List.eq_nil_of_length_eq_zero (by omega)
    subst hvs
    refine ⟨one1 ⟨b, 0, 0⟩, .sl h0.nx 0 0 0 (some esz), ⟨fun x l h => ?_, fun x y l l' h h' _ _ _ => ?_, fun x l o h ho => ?_⟩, ?_, ?_, fun h' ι' W' hm hr he => ?_⟩
    · obtain ⟨rfl, rfl⟩ := one1_some h
      exact ⟨by rw [H.nx_push, Pos.toNat_succ]; omega, hlt⟩
    · rw [(one1_some h).1, (one1_some h').1]
    · obtain ⟨rfl, rfl⟩ := one1_some h
      rw [H.get_push_same] at ho
      cases ho
      exact (orel_cells cx σ m1).2 ⟨c, ty, fz, hc, by rw [m2]; simp, by simp, fun i hi => absurd hi (Nat.not_lt_zero _), fun i v h => by rw [m4 i (by simp)] at h; cases h⟩
    · exact ⟨⟨b, 0, 0⟩, 0, off, one1_same _, rfl, Nat.le_refl _, fun h => (by cases h), fun e _ => by simp, .inr ⟨rfl, rfl, by simp⟩⟩
    · have := Sli.sl (esz := esz) (n := 0) (cap := 0) (o := 0) (fx := some esz) (Cells.new Ab.h0 []) (Nat.le_refl _) (by simp) fun e he => ⟨(Option.some.inj he).symm, rfl⟩
      simpa using this
    · exact back_of hc (fun i hi => absurd hi (Nat.not_lt_zero _)) hm hr he
  · have hp : 0 < vs.length := by rw [hz]; exact Nat.mul_pos (by omega) h0e
    have hcell : ∀ i, i < vs.length → ∃ x, c[off + i]? = some x := fun i hi => by
      obtain ⟨x, x1, x2, x3⟩ := hv i vs[i] (List.getElem?_eq_getElem hi)
      rw [cell_of W hc] at x1
      exact ⟨x, x1⟩
    have hsz : off + vs.length ≤ c.size := by
      obtain ⟨x, x1⟩ := hcell (vs.length - 1) (by omega)
      have := (Array.getElem?_eq_some_iff.1 x1).1
      omega
    refine ⟨one1 ⟨b, off, vs.length⟩, .sl h0.nx 0 len cap none, ⟨fun x l h => ?_, fun x y l l' h h' _ _ _ => ?_, fun x l o h ho => ?_⟩, ?_, ?_, fun h' ι' W' hm hr he => ?_⟩
    · obtain ⟨rfl, rfl⟩ := one1_some h
      exact ⟨by rw [H.nx_push, Pos.toNat_succ]; omega, hlt⟩
    · rw [(one1_some h).1, (one1_some h').1]
    · obtain ⟨rfl, rfl⟩ := one1_some h
      rw [H.get_push_same] at ho
      cases ho
      refine (orel_cells cx σ m1).2 ⟨c, ty, fz, hc, by rw [m2]; exact Nat.le_refl _, hsz, fun i hi => ?_, fun i v h => ?_⟩
      · intro hfz
        have hi' : i < vs.length := hi
        have := hf i hi'
        simp only [World.frozen?, hc] at this
        obtain ⟨lo, hh⟩ := fz
        simp at this hfz
        omega
      · by_cases hi : i < vs.length
        · rw [m3 i hi, List.getElem?_eq_getElem hi] at h
          cases h
          obtain ⟨x, x1, x2, x3⟩ := hv i vs[i] (List.getElem?_eq_getElem hi)
          rw [cell_of W hc] at x1
          exact ⟨x, x1, (x2 _ _).2 rfl, x3⟩
        · rw [m4 i (by omega)] at h; cases h
    · exact VR.sl_mk (one1_same _) rfl (Nat.le_refl _) (fun _ => rfl) (fun e h => by cases h)
    · have := Sli.sl (esz := esz) (n := len) (cap := cap) (o := 0) (fx := none) (Cells.new Ab.h0 vs) hl (by omega) fun e he => by cases he
      simpa using this
    · refine back_of hc (fun i hi => ?_) hm hr he
      have hi : i < vs.length := hi
      obtain ⟨x, x1, x2, x3⟩ := hv i vs[i] (List.getElem?_eq_getElem hi)
      rw [cell_of W hc] at x1
      exact ⟨vs[i], x, List.getElem?_eq_getElem hi, x1, fun ι y h => (x2 ι y).1 h⟩
end
end Go.Ab

/- Maps whose keys are ints; rows of ints compared; elements of several cells. -/
namespace Go.Ab
/-! rows of ints -/
def iv (l : List Int) : List V := l.map (.int .i64)
@[simp] theorem iv_len (l : List Int) : (iv l).length = l.length := by simp [iv]
theorem eqL_iv (S : Sy) : ∀ (sh : List Bool) (a b : List Int), (∀ x ∈ sh, x = false) → a.length = sh.length → b.length = sh.length → ∀ k, eqL S sh (iv a) (iv b) k = k (decide (a = b))
  | [], a, b, _, ha, hb, k => by
    have ha := List.eq_nil_of_length_eq_zero ha
    have hb := List.eq_nil_of_length_eq_zero hb
    subst ha hb; rfl
  | s :: sh, [], _, _, ha, _, _ => by cases ha
  | s :: sh, _ :: _, [], _, _, hb, _ => by cases hb
  | s :: sh, x :: a, y :: b, hs, ha, hb, k => by
    have hs0 : s = false := hs s (by simp)
    subst hs0
    show ifK (kbeq .i64 .i64) (Bool.rec (motive := fun _ => R) (k false) (eqL S sh (iv a) (iv b) k) (ieq x y)) = _
    rw [show kbeq .i64 .i64 = true from rfl, ieq_eq]
    show Bool.rec (motive := fun _ => R) (k false) (eqL S sh (iv a) (iv b) k) (decide (x = y)) = _
    by_cases h : x = y
    · subst h
      rw [decide_eq_true rfl]
      show eqL S sh (iv a) (iv b) k = _
      rw [eqL_iv S sh a b (fun z hz => hs z (by simp [hz])) (by simpa using ha) (by simpa using hb)]
      congr 1
      simp
    · rw [decide_eq_false h]
      show k false = _
      congr 1
      symm
      simp [h]
theorem o_eqa_iv (S : Sy) {sh : List Bool} (hs : ∀ x ∈ sh, x = false) {a b : List Int} (ha : a.length = sh.length) (hb : b.length = sh.length) (neg : Bool) (h : H) (k : K) : o_eqa S sh neg (.agg (iv a)) (.agg (iv b)) h k = k (.bool (neg != decide (a = b))) h := by
  show ifK (Nat.beq (llen (iv a)) (llen sh)) (ifK (Nat.beq (llen (iv b)) (llen sh)) (eqL S sh (iv a) (iv b) fun r => k (.bool (negIf neg r)) h)) = _
  simp only [llen_eq, iv_len, ha, hb, Nat.beq_refl]
  show eqL S sh (iv a) (iv b) (fun r => k (.bool (negIf neg r)) h) = _
  rw [eqL_iv S sh a b hs ha hb, negIf_eq]
  cases neg <;> simp

/-! maps -/
def im (m : List (Int × Int)) : List (V × V) := m.map fun e => (.int .i64 e.1, .int .i64 e.2)
def mget (m : List (Int × Int)) (c : Int) : Option Int := (m.find? fun e => e.1 == c).map (·.2)
theorem keyEq_ii (S : Sy) (a b : Int) (k : Bool → R) : keyEq S false [false] (.int .i64 a) (.int .i64 b) k = k (decide (a = b)) := by
  show ifK (kbeq .i64 .i64) (Bool.rec (motive := fun _ => R) (k false) (k true) (ieq a b)) = _
  rw [show kbeq .i64 .i64 = true from rfl, ieq_eq]
  show Bool.rec (motive := fun _ => R) (k false) (k true) (decide (a = b)) = _
  cases decide (a = b) <;> rfl
theorem findK_im (S : Sy) (c : Int) : ∀ (m : List (Int × Int)) (k : Option V → R), findK S false [false] (.int .i64 c) (im m) k = k ((mget m c).map (.int .i64))
  | [], k => rfl
  | e :: m, k => by
    show keyEq S false [false] (.int .i64 c) (.int .i64 e.1) (fun b => Bool.rec (motive := fun _ => R) (findK S false [false] (.int .i64 c) (im m) k) (k (some (.int .i64 e.2))) b) = _
    rw [keyEq_ii, findK_im S c m k]
    unfold mget
    by_cases h : c = e.1
    · subst h
      simp
    · have h' : ¬ e.1 = c := fun x => h x.symm
      simp [h, h']
theorem setKK_im (S : Sy) (c x : Int) : ∀ (m : List (Int × Int)) (k : List (V × V) → R), mget m c = none → setKK S false [false] (.int .i64 c) (.int .i64 x) (im m) k = k (im (m ++ [(c, x)]))
  | [], k, _ => rfl
  | e :: m, k, h0 => by
    show keyEq S false [false] (.int .i64 c) (.int .i64 e.1) (fun b => Bool.rec (motive := fun _ => R) (setKK S false [false] (.int .i64 c) (.int .i64 x) (im m) fun l => k ((.int .i64 e.1, .int .i64 e.2) :: l)) (k ((.int .i64 c, .int .i64 x) :: im m)) b) = _
    have h : ¬ c = e.1 := fun h => by subst h; simp [mget] at h0
    have h' : ¬ e.1 = c := fun x => h x.symm
    have h1 : mget m c = none := by simpa [mget, h'] using h0
    rw [keyEq_ii, decide_eq_false h]
    show setKK S false [false] (.int .i64 c) (.int .i64 x) (im m) _ = _
    rw [setKK_im S c x m _ h1]
    rfl
theorem delKK_im (S : Sy) (c : Int) : ∀ (m : List (Int × Int)) (k : List (V × V) → R), delKK S false [false] (.int .i64 c) (im m) k = k (im (m.eraseP fun e => e.1 == c))
  | [], k => rfl
  | e :: m, k => by
    show keyEq S false [false] (.int .i64 c) (.int .i64 e.1) (fun b => Bool.rec (motive := fun _ => R) (delKK S false [false] (.int .i64 c) (im m) fun l => k ((.int .i64 e.1, .int .i64 e.2) :: l)) (k (im m)) b) = _
    rw [keyEq_ii]
    by_cases h : c = e.1
    · subst h
      simp
    · have h' : ¬ e.1 = c := fun x => h x.symm
      rw [decide_eq_false h]
      show delKK S false [false] (.int .i64 c) (im m) _ = _
      rw [delKK_im S c m]
      simp [h']
      rfl
theorem mapK_of {h : H} {b : Pos} {es : List (V × V)} (e : h.get b = some (.mp es)) (k : List (V × V) → R) : h.mapK b k = k es := by
  show h.getK b _ = _
  rw [H.getK_of e]
theorem o_lkp_im (S : Sy) {h : H} {b : Pos} {m : List (Int × Int)} (e : h.get b = some (.mp (im m))) (c z : Int) (k : K) :
    o_lkp S false [false] (.int .i64 z) true (.map b) (.int .i64 c) h k = k (.tup [.int .i64 ((mget m c).getD z), .bool (mget m c).isSome]) h := by
  show h.mapK b (fun es => findK S false [false] (.int .i64 c) es fun f => lkR (.int .i64 z) true f fun v => k v h) = _
  rw [mapK_of e, findK_im]
  cases mget m c <;> rfl
theorem o_mset_im (S : Sy) {h : H} {b : Pos} {m : List (Int × Int)} (e : h.get b = some (.mp (im m))) {c : Int} (hn : mget m c = none) (x : Int) (k : K) :
    o_mset S false [false] (.map b) (.int .i64 c) (.int .i64 x) h k = k (.tup []) (h.put b (.mp (im (m ++ [(c, x)])))) := by
  show h.mapK b (fun es => setKK S false [false] (.int .i64 c) (.int .i64 x) es fun es' => k (.tup []) (h.put b (.mp es'))) = _
  rw [mapK_of e, setKK_im S c x m _ hn]
theorem o_del_im (S : Sy) {h : H} {b : Pos} {m : List (Int × Int)} (e : h.get b = some (.mp (im m))) (c : Int) (k : K) :
    o_del S false [false] (.map b) (.int .i64 c) h k = k (.tup []) (h.put b (.mp (im (m.eraseP fun e => e.1 == c)))) := by
  show h.mapK b (fun es => delKK S false [false] (.int .i64 c) es fun es' => k (.tup []) (h.put b (.mp es'))) = _
  rw [mapK_of e, delKK_im]

/-! elements of several cells -/
/-- the place of an element -/
theorem Sli.elt {h : H} {esz : Nat} {s : V} {l : List V} (x : Sli h esz s l) {i : Int} (h0 : 0 ≤ i) {n : Nat} (hl : l.length = n * esz) (hi : i < (n : Int)) (hp : 0 < esz) :
    ∃ b q L, Cells h b L ∧ s.blk b ∧ q + esz ≤ L.length ∧ (∀ j, j < esz → L[q + j]? = l[i.toNat * esz + j]?) ∧ (∀ (h' : H) (k : K), o_ixs esz s (.int .i64 i) h' k = k (.ptr b q) h') ∧
      ∀ (h' : H) (vs : List V) (a : Nat), a + vs.length ≤ esz → Cells h' b (over L (q + a) vs) → Sli h' esz s (over l (i.toNat * esz + a) vs) := by
  obtain ⟨N, hN⟩ : ∃ N, N = n * esz := ⟨_, rfl⟩
  rw [← hN] at hl
  cases x with
  | nil =>
    exfalso
    have h1 : 0 = N := hl
    have : 0 < n * esz := Nat.mul_pos (by omega) hp
    omega
  | @sl b o m cap fx L c hm ho hf =>
    rw [hN] at hl
    have e := Nat.mul_le_mul_right esz hm
    have hlen : ((L.drop o).take (m * esz)).length = m * esz := by simp; omega
    have hmn : m = n := by
      rw [hlen] at hl
      exact Nat.eq_of_mul_eq_mul_right hp hl
    subst hmn
    have h2 : (i.toNat + 1) * esz ≤ m * esz := Nat.mul_le_mul_right esz (by omega)
    rw [Nat.add_mul, Nat.one_mul] at h2
    refine ⟨b, o + i.toNat * esz, L, c, rfl, by omega, fun j hj => ?_, fun h' k => ixs_v h0 (by omega) esz h' k, fun h' vs a ha hc => ?_⟩
    · rw [List.getElem?_take_of_lt (by omega), List.getElem?_drop]; congr 1; omega
    · have hle : o + i.toNat * esz + a + vs.length ≤ L.length := by omega
      have := Sli.sl (esz := esz) (n := m) (cap := cap) (o := o) (fx := fx) hc hm (by rw [over_length hle]; exact ho) hf
      have e3 : ((over L (o + i.toNat * esz + a) vs).drop o).take (m * esz) = over ((L.drop o).take (m * esz)) (i.toNat * esz + a) vs := by
        apply List.ext_getElem?
        intro j
        rw [over_get (by rw [hlen]; omega)]
        by_cases hj : j < m * esz
        · rw [List.getElem?_take_of_lt hj, List.getElem?_drop, over_get hle, List.getElem?_take_of_lt hj, List.getElem?_drop]
          by_cases hin : i.toNat * esz + a ≤ j ∧ j < i.toNat * esz + a + vs.length
          · rw [if_pos hin, if_pos (by omega)]; congr 1; omega
          · rw [if_neg hin, if_neg (by omega)]
        · rw [List.getElem?_eq_none (by simp; omega), if_neg (by omega), List.getElem?_eq_none (by simp; omega)]
      rw [e3] at this
      exact this
/-- appending -/
theorem Sli.append2 {h : H} {esz by_ : Nat} {s x : V} {l m : List V} (xa : Sli h esz s l) (xb : Sli h esz x m) (hp : 0 < esz) (h1 : ∀ v ∈ m, v.one = true) (hok : ∀ n len, l.length = len * esz → m.length = n * esz → appOk by_ s len n = true) :
    ∃ s' h', (∀ k : K, o_app esz by_ s x h k = k s' h') ∧ Sli h' esz s' (l ++ m) ∧ Mod s.blk h h' ∧ (Ahead h → Ahead h') ∧ ∀ q, s'.blk q → s.blk q ∨ h.nx.toNat ≤ q.toNat := by
  obtain ⟨len, el, kl, _⟩ := xa.len
  obtain ⟨n, en, kn, _⟩ := xb.len
  have ok := hok n len el en
  have e0 : ∀ k : K, o_app esz by_ s x h k = doApp h esz s m n k := fun k => by
    unfold o_app
    rw [kl, kn, xb.elems (by omega) hp, ← en, List.take_length, ok]; rfl
  cases xa with
  | nil =>
    have hl0 : len = 0 := by
      have el : 0 = len * esz := el
      rcases Nat.eq_zero_or_pos len with h0 | h0
      · exact h0
      · have := Nat.mul_pos h0 hp; omega
    subst hl0
    cases n with
    | zero =>
      have hm : m = [] := List.eq_nil_of_length_eq_zero (by omega)
      subst hm
      exact ⟨.nils, h, fun k => by rw [e0]; rfl, .nil, .refl h, fun a => a, fun q hq => by cases hq⟩
    | succ n =>
      refine ⟨.sl h.nx 0 (n + 1) (n + 1) (some esz), h.push (mkO m), fun k => by
        rw [e0]
        show h.alloc (mkO m) (fun r h' => k (.sl r 0 (n + 1) (n + 1) (some esz)) h') = _
        exact H.alloc_eq h _ _, ?_, Mod.push _ _, fun a => a.push _, fun q hq => .inr (by have hq : q = h.nx := hq; subst hq; exact Nat.le_refl _)⟩
      have := Sli.sl (esz := esz) (n := n + 1) (cap := n + 1) (o := 0) (fx := some esz) (Cells.new h m) (Nat.le_refl _) (by omega) fun e he => ⟨(Option.some.inj he).symm, rfl⟩
      rw [List.drop_zero, ← en, List.take_length] at this
      simpa using this
  | @sl b o n' cap fx L c hn ho hf =>
    have hn' : n' = len := by
      have := kl (fun z => some (.int .i64 z, h))
      have this : some (V.int .i64 n', h) = some (V.int .i64 len, h) := this
      simp at this; omega
    subst hn'
    have hmul := Nat.mul_le_mul_right esz hn
    cases hble : Nat.ble (Nat.add n' n) cap with
    | true =>
      have hle : n' + n ≤ cap := Nat.le_of_ble_eq_true hble
      have hm2 := Nat.mul_le_mul_right esz hle
      rw [Nat.add_mul] at hm2
      refine ⟨.sl b o (n' + n) cap fx, h.wn b (o + n' * esz) m, fun k => ?_, ?_, (Mod.wn h b _ m), fun a => a.wn c.lt _ _, fun q hq => .inl hq⟩
      · rw [e0]
        show Bool.rec (motive := fun _ => R) _ (h.stn b (Nat.add o (Nat.mul n' esz)) m fun h' => k (.sl b o (Nat.add n' n) cap fx) h') (Nat.ble (Nat.add n' n) cap) = _
        rw [hble]
        show h.stn b (o + n' * esz) m (fun h' => k (.sl b o (n' + n) cap fx) h') = _
        exact c.stn (by omega) h1 _
      · have hle2 : o + n' * esz + m.length ≤ L.length := by omega
        have := Sli.sl (esz := esz) (n := n' + n) (cap := cap) (o := o) (fx := fx) (c.wn (i := o + n' * esz) (vs := m) hle2 h1) hle (by rw [over_length hle2]; exact ho) fun e he => by
          obtain ⟨q1, q2⟩ := hf e he
          exact ⟨q1, by omega⟩
        have e : (List.drop o (over L (o + n' * esz) m)).take ((n' + n) * esz) = (L.drop o).take (n' * esz) ++ m := by
          apply List.ext_getElem?
          intro j
          rw [Nat.add_mul]
          by_cases hj : j < n' * esz + n * esz
          · rw [List.getElem?_take_of_lt hj, List.getElem?_drop, over_get hle2]
            by_cases hj2 : j < n' * esz
            · rw [if_neg (by omega), List.getElem?_append_left (by simp; omega), List.getElem?_take_of_lt hj2, List.getElem?_drop]
            · rw [if_pos (by omega), List.getElem?_append_right (by simp; omega)]
              congr 1; simp; omega
          · rw [List.getElem?_eq_none (by simp; omega), List.getElem?_eq_none (by simp; omega)]
        rw [e] at this; exact this
    | false =>
      have e1 : ∀ k : K, doApp h esz (.sl b o n' cap fx) m n k = Option.rec (motive := fun _ => R) (h.alloc (mkO (Ab.app ((L.drop o).take (n' * esz)) m)) fun r h' => k (.sl r 0 (Nat.add n' n) (Nat.add n' n) (some esz)) h')
          (fun e => ifK (Nat.beq e esz) <| h.getK b fun ob => ifK ob.isCB ((h.put b .dead).alloc (mkO (Ab.app ((L.drop o).take (n' * esz)) m)) fun r h' => k (.sl r 0 (Nat.add n' n) (Nat.add n' n) (some esz)) h')) fx := fun k => by
        show Bool.rec (motive := fun _ => R) (h.ldn b o (Nat.mul n' esz) fun old => _) _ (Nat.ble (Nat.add n' n) cap) = _
        rw [hble]
        exact c.ldn (by omega : o + n' * esz ≤ L.length) _
      have fin : ∀ h1 : H, h1.nx = h.nx → Sli (h1.push (mkO ((L.drop o).take (n' * esz) ++ m))) esz (.sl h1.nx 0 (n' + n) (n' + n) (some esz)) ((L.drop o).take (n' * esz) ++ m) := fun h1 _ => by
        have hlen : ((L.drop o).take (n' * esz) ++ m).length = (n' + n) * esz := by rw [List.length_append, el, en, Nat.add_mul]
        have := Sli.sl (esz := esz) (n := n' + n) (cap := n' + n) (o := 0) (fx := some esz) (Cells.new h1 ((L.drop o).take (n' * esz) ++ m)) (Nat.le_refl _) (by omega) fun e he => ⟨(Option.some.inj he).symm, rfl⟩
        rw [List.drop_zero, ← hlen, List.take_length] at this
        exact this
      cases fx with
      | none =>
        refine ⟨_, _, fun k => ?_, fin h rfl, Mod.push _ _, fun a => a.push _, fun q hq => .inr (by have hq : q = h.nx := hq; subst hq; exact Nat.le_refl _)⟩
        rw [e0, e1, app_eq]
        show h.alloc _ (fun r h' => k (.sl r 0 (n' + n) (n' + n) (some esz)) h') = _
        exact H.alloc_eq h _ _
      | some f =>
        obtain ⟨q1, q2⟩ := hf f rfl
        subst q1
        obtain ⟨ob, g1, g2, _, _⟩ := c.ex
        refine ⟨_, _, fun k => ?_, fin (h.put b .dead) (by simp), (Mod.put h b .dead).trans (Mod.push _ _), fun a => (a.put c.lt _).push _, fun q hq => .inr (by have hq : q = (h.put b .dead).nx := hq; subst hq; rw [H.nx_put]; exact Nat.le_refl _)⟩
        rw [e0, e1, app_eq]
        show ifK (Nat.beq f f) _ = _
        rw [Nat.beq_refl]
        show h.getK b _ = _
        rw [H.getK_of g1]
        have : ob.isCB = true := by cases ob <;> first | rfl | cases g2
        rw [this]
        show (h.put b .dead).alloc _ (fun r h' => k (.sl r 0 (n' + n) (n' + n) (some f)) h') = _
        exact H.alloc_eq _ _ _
end Go.Ab
