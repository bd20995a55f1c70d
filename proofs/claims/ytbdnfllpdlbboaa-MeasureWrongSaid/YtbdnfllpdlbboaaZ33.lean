/- MeasureWrong answers true whatever its input, for any arguments: its row, said. -/
import Derived.Test.YtbdnfllpdlbboaaZ32
import Derived.Test.YtbdnfllpdlbboaaZ12
namespace Go.Proofs.Ytbdnfllpdlbboaa
open Go Go.Zed Go.ChangeShapes Go.WideShapes Go.ChangeAt Go.RowKit
theorem c22 : Try.prog.cellsOf 22 = 1 := by kernel_rfl
theorem waysRd {H : Type} {enc : TypeId × Value → H} {w : World} {sp : Nat → Bool} {held : Bool} : ∀ {es : List (List Value)}, (∀ x ∈ es, Rd enc Try.prog w sp held 22 x) → ∃ ys : List Wp, es = ys.map (fun y => [.slice y.a y.n y.cap]) ∧ Wys (imgOf w) ys
  | [], _ => ⟨[], rfl, ⟨by simp⟩⟩
  | x :: es, h => by
    obtain ⟨ys, rfl, hy⟩ := waysRd (es := es) fun x hx => h x (List.mem_cons_of_mem _ hx)
    obtain ⟨a, n, cap, es1, rfl, hnc, _, hs, ho⟩ := Rd.slice Try.underlying22 (by rw [c5]; decide) (h x (List.mem_cons_self ..))
    obtain ⟨l, rfl, hl⟩ := intsRd Try.underlying5 ho
    rw [c5] at hs
    refine ⟨⟨a, n, cap, l⟩ :: ys, rfl, ⟨fun y hy' => ?_⟩⟩
    rcases List.mem_cons.1 hy' with rfl | hy'
    · exact ⟨hs, hnc, fun x hx => wfU8 (hl x hx)⟩
    · exact hy.el y hy'
set_option maxRecDepth 100000 in
theorem wrong_contract (H : Type) (enc : TypeId × Value → H) (W : World) (base : Nat) (args : Array Value) (ds gs : List (DataW H)) (before : List MemPlace)
    (hval : ∀ (j : Nat) t v, Try.f5.params[j]? = some t → args[j]? = some v → Value.okWide Try.prog W .any base t v)
    (hW : DataW.Whole enc Try.prog Try.f5.params.toList Rows.measureWrongSpec.vars false W args.toList ds gs before) :
    Calls Try.prog 5 args W fun e W' => ∃ v, e = .returned v ∧ Rows.measureWrongSpec.post enc Try.prog Try.f5 false true false false W args v W' := by
  have hW' := hW
  obtain ⟨p, q, hA0, hV, rfl, hfz, hnd⟩ := hW
  have hA : DataW.TrodAll enc Try.prog W 0 (fun _ => true) true Try.f5.params.toList args.toList ds p := hA0
  rw [Try.params5] at hA hval
  obtain ⟨v0, vs0, d0, ds0, p0, q0, hargs, rfl, rfl, h0, r0⟩ := trodAll_cons hA
  obtain ⟨v1, vs1, d1, ds1, p1, q1, rfl, rfl, rfl, h1, r1⟩ := trodAll_cons r0
  obtain ⟨rfl, rfl, rfl⟩ := trodAll_nil r1
  obtain rfl : args = #[v0, v1] := by cases args; simp_all
  obtain ⟨rfl, rfl⟩ := trodVars_none hV
  obtain ⟨a0, n0, k0, es0, rfl, s0, o0⟩ := argL Try.underlying22 (by rw [c5]; decide) (hval 0 22 _ rfl rfl) h0
  obtain ⟨l0, rfl, w0⟩ := intsRd Try.underlying5 o0
  rw [c5] at s0
  obtain ⟨a1, n1, k1, es1, rfl, s1, o1⟩ := argL Try.underlying52 (by rw [c22]; decide) (hval 1 52 _ rfl rfl) h1
  obtain ⟨ys, rfl, hys⟩ := waysRd o1
  rw [c22] at s1
  refine (Fc.run (wrong_ok [] (imgOf W) a0 a1 n0 k0 n1 k1 l0 ys (fun x hx => wfU8 (w0 x hx)) s0 s1 hys)).mono ?_
  rintro e W' ⟨v, own', g', rfl, hk, _, ⟨_, rfl⟩, _⟩
  exact ⟨_, rfl, post_of_kept (pv := []) hW' hk (fun _ _ _ => trodAll_cons_mk (shut_bool Try.underlying4 _) trodAll_mk0)
    (fun sp hsp => hk.all laidOut (by kernel_rfl) hA0 (fun x hx => hW'.lt x (by simpa using hx)) (fun x hx => hsp x (by simpa using hx))) (fun _ _ => rfl) rfl (ok_one (by kernel_rfl) rfl (okWide_bool_mk Try.underlying4 _))⟩
set_option maxRecDepth 100000 in
theorem wrong_lifted (os : Os) (started : os.Started) (H : Type) (enc : TypeId × Value → H) :
    ReturnsInHanded {} Try.checked os 5 .any (Rows.measureWrongSpec.pre6 enc Try.prog Try.f5 Rows.measureWrongRow.domain false) (Rows.measureWrongSpec.post enc Try.prog Try.f5 false true false false) := by
  refine returnsInHanded_of_change (C := Try.checked) own started (by kernel_rfl) Try.func5
    (ChangeSpec.witness6 (enc := enc) (C := Try.checked) false ⟨#[], #[.slice none 0 0, .slice none 0 0], []⟩ 8 (by kernel_rfl) (by kernel_rfl) (by kernel_rfl) (by kernel_rfl)) ?_
  intro W base args ds gs before hval hW _ _
  exact wrong_contract H enc W base args ds gs before hval hW
theorem wrong_said : Rows.MeasureWrongSaid :=
  OpenClaim.holds_of_wide 5 Try.f5 rfl rfl rfl rfl rfl rfl rfl ⟨rfl, rfl, rfl, rfl, rfl⟩ rfl rfl rfl rfl rfl (by kernel_rfl) Try.func5 (by kernel_rfl)
    (of_decide_eq_true (by kernel_rfl)) (by unfold Func.isWrapper; first | (rw [if_pos (by decide +kernel)]; kernel_rfl) | (rw [if_neg (by decide +kernel)]; exact ⟨rfl, rfl⟩))
    (fun os started H enc _ => wrong_lifted os started H enc)
#print axioms wrong_said
end Go.Proofs.Ytbdnfllpdlbboaa
