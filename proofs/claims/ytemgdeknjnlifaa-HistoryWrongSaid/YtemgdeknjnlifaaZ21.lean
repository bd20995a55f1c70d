import Derived.Test.YtemgdeknjnlifaaZ18
import Derived.Test.YtemgdeknjnlifaaRows
import Derived.Test.YtemgdeknjnlifaaZedR
import Derived.ProofKit
namespace Go.Proofs.Ytemgdeknjnlifaa
set_option maxRecDepth 100000
open Go Go.Zed Go.ChangeShapes Go.WideShapes Go.ChangeAt Go.RowKit
theorem own : ownKnob Try.prog.godebug = none := by kernel_rfl
theorem laidOut : laidOutB Try.prog = true := by kernel_rfl
theorem c5 : Try.prog.cellsOf 5 = 1 := by kernel_rfl
theorem c42 : Try.prog.cellsOf 42 = 2 := by kernel_rfl
theorem argLc {H : Type} {enc : TypeId × Value → H} {P : Program} {w : World} {sp : Nat → Bool} {held : Bool} {r : Reach} {b0 : Nat} {t el : TypeId} {v : Value} {d : DataW H} {ps : List MemPlace} (hu : P.underlying t = some (.slice el)) (hc : 0 < P.cellsOf el) (hok : Value.okWide P w r b0 t v) (hd : DataW.Trod enc P w 0 sp held t v d ps) :
    ∃ a n cap es, v = .slice a n cap ∧ n ≤ cap ∧ Sl (imgOf w) (P.cellsOf el) a n es ∧ ∀ x ∈ es, Rd enc P w sp held el x := by
  have hna : ∀ cs, v ≠ .agg cs := by
    rintro cs rfl
    unfold Value.okWide at hok
    rw [hu] at hok
    simp only at hok
    unfold Cell.okWide at hok
    rw [hu] at hok
    simp only at hok
    unfold Cell.ok at hok
    rw [hu] at hok
    simp at hok
  obtain ⟨fuel, hf⟩ := hd
  have hv : v.cells.toList = [v] := by cases v <;> first | rfl | exact absurd rfl (hna _)
  rw [hv] at hf
  obtain ⟨a, n, cap, es, he, h1, _, hs, hr⟩ := Rd.slice hu hc ⟨fuel, _, hf⟩
  simp at he
  exact ⟨a, n, cap, es, he, h1, hs, hr⟩
section
variable {H : Type} {enc : TypeId × Value → H} {w : World} {sp : Nat → Bool} {held : Bool}
/-- Acts as an argument. -/
theorem actRd {cs : List Value} (h : Rd enc Try.prog w sp held 42 cs) : ∃ x : Int × Int, cs = [.int .u8 x.1, .int .u8 x.2] ∧ (0 ≤ x.1 ∧ x.1 < 256) ∧ 0 ≤ x.2 ∧ x.2 < 256 := by
  obtain ⟨hl, hf⟩ := Rd.struct Try.underlying42 h
  rw [c42] at hl
  match cs, hl with
  | [v0, v1], _ =>
    obtain ⟨k, e0, w0⟩ := Rd.int Try.underlying5 (hf _ (List.mem_of_getElem? (i := 0) rfl))
    obtain ⟨a, e1, w1⟩ := Rd.int Try.underlying5 (hf _ (List.mem_of_getElem? (i := 1) rfl))
    simp only [c5] at e0 e1
    simp at e0 e1
    subst e0 e1
    have h0 := wfU8 w0
    have h1 := wfU8 w1
    exact ⟨(k, a), rfl, by simp only; omega, by simp only; omega⟩
theorem actsRd {es : List (List Value)} (h : ∀ x ∈ es, Rd enc Try.prog w sp held 42 x) : ∃ l : List (Int × Int), es = acts l ∧ ∀ x ∈ l, (0 ≤ x.1 ∧ x.1 < 256) ∧ 0 ≤ x.2 ∧ x.2 < 256 := by
  induction es with
  | nil => exact ⟨[], rfl, by simp⟩
  | cons x es ih =>
    obtain ⟨l, rfl, hl⟩ := ih fun y hy => h y (List.mem_cons_of_mem _ hy)
    obtain ⟨y, rfl, hy⟩ := actRd (h x (List.mem_cons_self ..))
    refine ⟨y :: l, rfl, fun z hz => ?_⟩
    rcases List.mem_cons.1 hz with rfl | hz
    · exact hy
    · exact hl z hz
theorem argActs {r : Reach} {b0 : Nat} {v : Value} {d : DataW H} {ps : List MemPlace} (hok : Value.okWide Try.prog w r b0 22 v) (hd : DataW.Trod enc Try.prog w 0 sp held 22 v d ps) :
    ∃ a n cap l, v = .slice a n cap ∧ Sl (imgOf w) 2 a n (acts l) ∧ ∀ x ∈ l, (0 ≤ x.1 ∧ x.1 < 256) ∧ 0 ≤ x.2 ∧ x.2 < 256 := by
  obtain ⟨a, n, cap, es, rfl, _, hs, hr⟩ := argLc Try.underlying22 (by rw [c42]; decide) hok hd
  rw [c42] at hs
  obtain ⟨l, rfl, hl⟩ := actsRd hr
  exact ⟨a, n, cap, l, rfl, hs, hl⟩
end
end Go.Proofs.Ytemgdeknjnlifaa
