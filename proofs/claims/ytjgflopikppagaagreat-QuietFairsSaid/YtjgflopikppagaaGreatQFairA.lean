/- Windows of a list: how often numbers stand in them, how many are missing. Plain lists. -/
set_option linter.unusedSimpArgs false
set_option linter.unusedVariables false
namespace Go.Fair

/-- how many numbers below n a list lacks -/
def miss (n : Nat) (W : List Int) : Nat := (List.range n).countP fun (k : Nat) => W.count (k : Int) == 0

theorem range_succ_countP (n : Nat) (p : Nat → Bool) : (List.range (n + 1)).countP p = (List.range n).countP p + if p n then 1 else 0 := by
  rw [List.range_succ, List.countP_append]; simp [List.countP_cons]

theorem countP_flip {n q : Nat} (hq : q < n) {f g : Nat → Bool} (h1 : ∀ k, k ≠ q → f k = g k) (h2 : f q = true) (h3 : g q = false) : (List.range n).countP f = (List.range n).countP g + 1 := by
  induction n with
  | zero => omega
  | succ n ih =>
    rw [range_succ_countP, range_succ_countP]
    by_cases e : q = n
    · subst e
      rw [h2, h3]
      have : (List.range q).countP f = (List.range q).countP g := List.countP_congr fun k hk => by
        have := List.mem_range.1 hk
        rw [h1 k (by omega)]
      simp [this]
    · rw [ih (by omega), h1 n (fun h => e h.symm)]; omega

theorem countP_same {n : Nat} {f g : Nat → Bool} (h : ∀ k, k < n → f k = g k) : (List.range n).countP f = (List.range n).countP g :=
  List.countP_congr fun k hk => by rw [h k (List.mem_range.1 hk)]

theorem count_snoc (W : List Int) (p k : Int) : (W ++ [p]).count k = W.count k + if p = k then 1 else 0 := by
  rw [List.count_append, List.count_cons, List.count_nil]; simp

/-- one more: a number that was missing is there -/
theorem miss_add {n : Nat} {W : List Int} {p : Int} (hp : 0 ≤ p ∧ p < n) (h0 : W.count p = 0) : miss n W = miss n (W ++ [p]) + 1 := by
  obtain ⟨q, rfl⟩ := Int.eq_ofNat_of_zero_le hp.1
  refine countP_flip (q := q) (by omega) (fun k hk => ?_) (by simp [h0]) (by simp [count_snoc])
  rw [count_snoc, if_neg (by omega)]; rfl
theorem miss_keep {n : Nat} {W : List Int} {p : Int} (h : ¬(0 ≤ p ∧ p < n) ∨ W.count p ≠ 0) : miss n (W ++ [p]) = miss n W := by
  refine countP_same fun k hk => ?_
  rw [count_snoc]
  split
  · rename_i e
    subst e
    rcases h with h | h
    · omega
    · have : W.count (k : Int) ≠ 0 := h
      simp [this]
  · rfl
theorem count_tail (W : List Int) (a k : Int) : (a :: W).count k = W.count k + if a = k then 1 else 0 := by
  rw [List.count_cons]; simp
/-- one less: a number is missing that was there -/
theorem miss_drop {n : Nat} {W : List Int} {a : Int} (hp : 0 ≤ a ∧ a < n) (h0 : W.count a = 0) : miss n W = miss n (a :: W) + 1 := by
  obtain ⟨q, rfl⟩ := Int.eq_ofNat_of_zero_le hp.1
  refine countP_flip (q := q) (by omega) (fun k hk => ?_) (by simp [h0]) (by simp [count_tail])
  rw [count_tail, if_neg (by omega)]; rfl
theorem miss_dkeep {n : Nat} {W : List Int} {a : Int} (h : ¬(0 ≤ a ∧ a < n) ∨ W.count a ≠ 0) : miss n W = miss n (a :: W) := by
  refine (countP_same fun k hk => ?_).symm
  rw [count_tail]
  split
  · rename_i e
    subst e
    rcases h with h | h
    · omega
    · have : W.count (k : Int) ≠ 0 := h
      simp [this]
  · rfl
theorem miss_zero {n : Nat} {W : List Int} : miss n W = 0 ↔ ∀ k : Nat, k < n → (k : Int) ∈ W := by
  unfold miss
  rw [List.countP_eq_zero]
  constructor
  · intro h k hk
    have := h k (List.mem_range.2 hk)
    simp only [beq_iff_eq] at this
    exact List.count_pos_iff.1 (Nat.pos_of_ne_zero this)
  · intro h k hk
    have := List.count_pos_iff.2 (h k (List.mem_range.1 hk))
    simp only [beq_iff_eq]; omega
theorem miss_nil (n : Nat) : miss n [] = n := by
  unfold miss
  have : (List.range n).countP (fun (k : Nat) => ([] : List Int).count (k : Int) == 0) = (List.range n).length := List.countP_eq_length.2 fun k _ => rfl
  rw [this, List.length_range]
/-- the last w of the first m -/
def win (l : List Int) (w m : Nat) : List Int := (l.take m).drop (m - w)
theorem win_zero (l : List Int) (w : Nat) : win l w 0 = [] := by simp [win]
theorem win_len {l : List Int} {w m : Nat} (hm : m ≤ l.length) : (win l w m).length = min m w := by
  simp [win, List.length_take, List.length_drop]; omega
theorem win_lo {l : List Int} {w m : Nat} (hm : m < l.length) (h : m < w) : win l w (m + 1) = win l w m ++ [l[m]] := by
  unfold win
  rw [show m + 1 - w = 0 by omega, show m - w = 0 by omega, List.drop_zero, List.drop_zero, List.take_succ_eq_append_getElem hm]
theorem win_hi {l : List Int} {w m : Nat} (hm : m < l.length) (h : w ≤ m) : l[m - w]'(by omega) :: win l w (m + 1) = win l w m ++ [l[m]] := by
  unfold win
  have e : (l.take (m + 1)).drop (m - w) = (l.take m).drop (m - w) ++ [l[m]] := by
    rw [List.take_succ_eq_append_getElem hm, List.drop_append_of_le_length (by simp; omega)]
  rw [← e]
  have hlt : m - w < (l.take (m + 1)).length := by simp; omega
  rw [List.drop_eq_getElem_cons hlt, show m + 1 - w = m - w + 1 by omega]
  simp
theorem win_mem {l : List Int} {w i : Nat} (h : i + w ≤ l.length) (k : Int) : k ∈ win l w (i + w) ↔ ∃ j, i ≤ j ∧ j < i + w ∧ l[j]? = some k := by
  unfold win
  rw [show i + w - w = i by omega, List.mem_iff_getElem?]
  constructor
  · rintro ⟨q, hq⟩
    rw [List.getElem?_drop, List.getElem?_take] at hq
    split at hq
    · exact ⟨i + q, by omega, by omega, hq⟩
    · cases hq
  · rintro ⟨j, h1, h2, h3⟩
    refine ⟨j - i, ?_⟩
    rw [List.getElem?_drop, List.getElem?_take, show i + (j - i) = j by omega, if_pos (by omega)]; exact h3
/-- too many numbers for a window -/
theorem pigeon {n : Nat} {W : List Int} (h : miss n W = 0) : n ≤ W.length := by
  induction n generalizing W with
  | zero => omega
  | succ n ih =>
    rw [miss_zero] at h
    have hn := h n (by omega)
    have := ih (W := W.erase (n : Int)) (miss_zero.2 fun k hk => (List.mem_erase_of_ne (by omega)).2 (h k (by omega)))
    rw [List.length_erase_of_mem hn] at this
    have : 0 < W.length := List.length_pos_of_mem hn
    omega
end Go.Fair
