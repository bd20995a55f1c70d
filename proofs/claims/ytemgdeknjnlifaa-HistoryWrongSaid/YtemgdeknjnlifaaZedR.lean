/- Slices among the arguments. -/
import Derived.Test.YtemgdeknjnlifaaZedP
namespace Go.Zed
open Go Go.ChangeShapes Go.WideShapes Go.ChangeAt Go.RowKit
variable {H : Type} {enc : TypeId × Value → H} {P : Program}
theorem argL {w : World} {sp : Nat → Bool} {held : Bool} {r : Reach} {b0 : Nat} {t el : TypeId} {v : Value} {d : DataW H} {ps : List MemPlace} (hu : P.underlying t = some (.slice el)) (hc : 0 < P.cellsOf el) (hok : Value.okWide P w r b0 t v) (hd : DataW.Trod enc P w 0 sp held t v d ps) :
    ∃ a n cap es, v = .slice a n cap ∧ Sl (imgOf w) (P.cellsOf el) a n es ∧ ∀ x ∈ es, Rd enc P w sp held el x := by
  have hna : ∀ cs, v ≠ .agg cs := by
    rintro cs rfl
    unfold Value.okWide at hok
    rw [hu] at hok
    simp only at hok
    unfold Cell.okWide at hok
    rw [hu] at hok
    simp only at hok
    unfold Cell.ok at hok
    rw [hu] at hok
    simp at hok
  obtain ⟨fuel, hf⟩ := hd
  have hv : v.cells.toList = [v] := by cases v <;> first | rfl | exact absurd rfl (hna _)
  rw [hv] at hf
  obtain ⟨a, n, cap, es, he, _, _, hs, hr⟩ := Rd.slice hu hc ⟨fuel, _, hf⟩
  simp at he
  exact ⟨a, n, cap, es, he, hs, hr⟩
theorem argI {w : World} {sp : Nat → Bool} {held : Bool} {r : Reach} {b0 : Nat} {t : TypeId} {k : IntKind} {v : Value} {d : DataW H} {ps : List MemPlace} (hu : P.underlying t = some (.int k)) (hok : Value.okWide P w r b0 t v) (hd : DataW.Trod enc P w 0 sp held t v d ps) :
    ∃ n, v = .int k n ∧ (Lit.int k n).wf = true := by
  have hna : ∀ cs, v ≠ .agg cs := by
    rintro cs rfl
    unfold Value.okWide at hok
    rw [hu] at hok
    simp only at hok
    unfold Cell.okWide at hok
    rw [hu] at hok
    simp only at hok
    unfold Cell.ok at hok
    rw [hu] at hok
    simp at hok
  obtain ⟨fuel, hf⟩ := hd
  have hv : v.cells.toList = [v] := by cases v <;> first | rfl | exact absurd rfl (hna _)
  rw [hv] at hf
  obtain ⟨n, he, hn⟩ := Rd.int hu ⟨fuel, _, hf⟩
  simp at he
  exact ⟨n, he, hn⟩
theorem intsRd {w : World} {sp : Nat → Bool} {held : Bool} {el : TypeId} {k : IntKind} (hu : P.underlying el = some (.int k)) {es : List (List Value)} (h : ∀ x ∈ es, Rd enc P w sp held el x) : ∃ l : List Int, es = l.map (fun x => [.int k x]) ∧ ∀ x ∈ l, (Lit.int k x).wf = true := by
  induction es with
  | nil => exact ⟨[], rfl, by simp⟩
  | cons y es ih =>
    obtain ⟨l, rfl, hl⟩ := ih fun x hx => h x (List.mem_cons_of_mem _ hx)
    obtain ⟨n, rfl, hn⟩ := (h y (List.mem_cons_self ..)).int hu
    exact ⟨n :: l, rfl, by simp only [List.mem_cons, forall_eq_or_imp]; exact ⟨hn, hl⟩⟩
theorem wfU8 {n : Int} (h : (Lit.int .u8 n).wf = true) : 0 ≤ n ∧ n ≤ 255 := by
  simp only [Lit.wf, Bool.and_eq_true, decide_eq_true_eq] at h
  exact h
theorem wfU16 {n : Int} (h : (Lit.int .u16 n).wf = true) : 0 ≤ n ∧ n ≤ 65535 := by
  simp only [Lit.wf, Bool.and_eq_true, decide_eq_true_eq] at h
  exact h
theorem wfU64 {n : Int} (h : (Lit.int .u64 n).wf = true) : 0 ≤ n ∧ n ≤ 18446744073709551615 := by
  simp only [Lit.wf, Bool.and_eq_true, decide_eq_true_eq] at h
  exact h
theorem wfI64 {n : Int} (h : (Lit.int .i64 n).wf = true) : -9223372036854775808 ≤ n ∧ n ≤ 9223372036854775807 := by
  simp only [Lit.wf, Bool.and_eq_true, decide_eq_true_eq] at h
  exact h
end Go.Zed
