import Derived.Test.YtbdnfllpdlbboaaZT
import Derived.Test.YtbdnfllpdlbboaaRows
import Derived.Test.YtbdnfllpdlbboaaZedR
import Derived.ProofKit
namespace Go.Proofs.Ytbdnfllpdlbboaa
open Go Go.Zed Go.ChangeShapes Go.WideShapes Go.ChangeAt Go.RowKit
theorem own : ownKnob Try.prog.godebug = none := by kernel_rfl
theorem laidOut : laidOutB Try.prog = true := by kernel_rfl
theorem c5 : Try.prog.cellsOf 5 = 1 := by kernel_rfl
theorem argLc {H : Type} {enc : TypeId × Value → H} {P : Program} {w : World} {sp : Nat → Bool} {held : Bool} {r : Reach} {b0 : Nat} {t el : TypeId} {v : Value} {d : DataW H} {ps : List MemPlace} (hu : P.underlying t = some (.slice el)) (hc : 0 < P.cellsOf el) (hok : Value.okWide P w r b0 t v) (hd : DataW.Trod enc P w 0 sp held t v d ps) :
    ∃ a n cap es, v = .slice a n cap ∧ n ≤ cap ∧ Sl (imgOf w) (P.cellsOf el) a n es ∧ ∀ x ∈ es, Rd enc P w sp held el x := by
  have hna : ∀ cs, v ≠ .agg cs := by
    rintro cs rfl
    unfold Value.okWide at hok
    rw [hu] at hok
    simp only at hok
    unfold Cell.okWide at hok
    rw [hu] at hok
    simp only at hok
    unfold Cell.ok at hok
    rw [hu] at hok
    simp at hok
  obtain ⟨fuel, hf⟩ := hd
  have hv : v.cells.toList = [v] := by cases v <;> first | rfl | exact absurd rfl (hna _)
  rw [hv] at hf
  obtain ⟨a, n, cap, es, he, h1, _, hs, hr⟩ := Rd.slice hu hc ⟨fuel, _, hf⟩
  simp at he
  exact ⟨a, n, cap, es, he, h1, hs, hr⟩
end Go.Proofs.Ytbdnfllpdlbboaa
