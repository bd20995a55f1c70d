import Derived.Test.YtemgdeknjnlifaaZ17
namespace Go.Proofs.Ytemgdeknjnlifaa
open Go Go.Zed
/-! ### Children, and how many there are: plain laws -/
theorem idx_mem {q : En → Bool} : ∀ {l : List En} {i c : Int}, c ∈ idx q i l → ∃ (j : Nat) (e : En), c = i + j ∧ l[j]? = some e ∧ q e = true
  | [], _, _, h => by cases h
  | x :: l, i, c, h => by
    rw [idx] at h
    by_cases hq : q x
    · rw [if_pos hq] at h
      rcases List.mem_cons.1 h with rfl | h
      · exact ⟨0, x, by simp, rfl, hq⟩
      · obtain ⟨j, e, h1, h2, h3⟩ := idx_mem h
        exact ⟨j + 1, e, by simp; omega, by simpa using h2, h3⟩
    · rw [if_neg hq] at h
      obtain ⟨j, e, h1, h2, h3⟩ := idx_mem h
      exact ⟨j + 1, e, by simp; omega, by simpa using h2, h3⟩
theorem idx_sorted {q : En → Bool} : ∀ {l : List En} {i : Int}, (idx q i l).Pairwise (· < ·)
  | [], _ => List.Pairwise.nil
  | x :: l, i => by
    rw [idx]
    by_cases hq : q x
    · rw [if_pos hq]
      refine List.Pairwise.cons (fun c hc => ?_) idx_sorted
      obtain ⟨j, e, h1, _, _⟩ := idx_mem hc
      omega
    · rw [if_neg hq]; exact idx_sorted
theorem idx_count {q : En → Bool} : ∀ {l : List En} {i : Int}, (idx q i l).length = l.countP q
  | [], _ => rfl
  | x :: l, i => by
    by_cases hq : q x
    · rw [idx, if_pos hq, List.length_cons, idx_count, List.countP_cons_of_pos hq]
    · rw [idx, if_neg hq, idx_count, List.countP_cons_of_neg hq]
theorem sons_spec {es : List En} {n c : Int} (h : c ∈ sons es n) : ∃ y, ent es c = some y ∧ y.p = n := by
  obtain ⟨j, e, h1, h2, h3⟩ := idx_mem h
  obtain rfl : c = (j : Int) := by omega
  exact ⟨e, by rw [ent_nat]; exact h2, by simpa using h3⟩
theorem sons_sorted {es : List En} {n : Int} {i : Nat} {a b : Int} (h1 : (sons es n)[i]? = some a) (h2 : (sons es n)[i + 1]? = some b) : a < b := by
  have hs := idx_sorted (q := fun e => decide (e.p = n)) (l := es) (i := 0)
  have := List.pairwise_iff_getElem.1 hs i (i + 1) (List.getElem?_eq_some_iff.1 h1).1 (List.getElem?_eq_some_iff.1 h2).1 (by omega)
  rw [(List.getElem?_eq_some_iff.1 h1).2, (List.getElem?_eq_some_iff.1 h2).2] at this
  exact this
/-- How many entries have a parent below n. -/
def below (es : List En) (n : Int) : Nat := es.countP fun e => decide (0 ≤ e.p) && decide (e.p < n)
theorem below_step (es : List En) (n : Int) (h : 0 ≤ n) : below es (n + 1) = below es n + (sons es n).length := by
  rw [idx_count]
  unfold below
  induction es with
  | nil => rfl
  | cons x l ih =>
    have key : (if (decide (0 ≤ x.p) && decide (x.p < n + 1)) = true then 1 else 0) = (if (decide (0 ≤ x.p) && decide (x.p < n)) = true then 1 else 0) + (if decide (x.p = n) = true then 1 else 0) := by
      simp only [Bool.and_eq_true, decide_eq_true_eq]
      by_cases h1 : 0 ≤ x.p ∧ x.p < n
      · rw [if_pos (by omega), if_pos h1, if_neg (by omega)]
      · by_cases h4 : x.p = n
        · rw [if_pos (by omega), if_neg h1, if_pos h4]
        · rw [if_neg (by omega), if_neg h1, if_neg h4]
    rw [List.countP_cons, List.countP_cons, List.countP_cons, ih, key]
    omega
theorem below_zero (es : List En) : below es 0 = 0 := by
  unfold below
  rw [List.countP_eq_zero]
  intro x _ h
  simp at h
  omega
theorem below_le (es : List En) (n : Int) : below es n ≤ es.length := List.countP_le_length
theorem below_all {es : List En} (hw : Wf es) : below es es.length = es.length - 1 := by
  have hne := hw.ne
  match es, hw with
  | r :: l, hw =>
    have hr : r.p = -1 := hw.root r rfl
    have h1 : ¬ (decide (0 ≤ r.p) && decide (r.p < ((r :: l).length : Int))) = true := by simp [hr]
    show List.countP (fun e => decide (0 ≤ e.p) && decide (e.p < ((r :: l).length : Int))) (r :: l) = _
    rw [List.countP_cons, if_neg h1]
    have : l.countP (fun e => decide (0 ≤ e.p) && decide (e.p < ((r :: l).length : Int))) = l.length := by
      rw [List.countP_eq_length]
      intro e he
      obtain ⟨i, hi⟩ := List.mem_iff_getElem?.1 he
      have h2 := hw.above (i + 1) e (by simpa using hi) (by omega)
      have h3 := (List.getElem?_eq_some_iff.1 hi).1
      simp
      omega
    rw [this]; simp
theorem take_snoc {α : Type} {l : List α} {i : Nat} {x : α} (h : l[i]? = some x) : l.take (i + 1) = l.take i ++ [x] := by rw [List.take_add_one, h]; rfl
end Go.Proofs.Ytemgdeknjnlifaa
