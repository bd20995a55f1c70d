/- MeasureLimits answers true whatever its input, for any arguments: its row, said. -/
import Derived.Test.YtbdnfllpdlbboaaZ28
import Derived.Test.YtbdnfllpdlbboaaZ12
namespace Go.Proofs.Ytbdnfllpdlbboaa
open Go Go.Zed Go.ChangeShapes Go.WideShapes Go.ChangeAt Go.RowKit
set_option maxRecDepth 100000 in
theorem limits_contract (H : Type) (enc : TypeId × Value → H) (W : World) (base : Nat) (args : Array Value) (ds gs : List (DataW H)) (before : List MemPlace)
    (hval : ∀ (j : Nat) t v, Try.f9.params[j]? = some t → args[j]? = some v → Value.okWide Try.prog W .any base t v)
    (hW : DataW.Whole enc Try.prog Try.f9.params.toList Rows.measureLimitsSpec.vars false W args.toList ds gs before) :
    Calls Try.prog 9 args W fun e W' => ∃ v, e = .returned v ∧ Rows.measureLimitsSpec.post enc Try.prog Try.f9 false true false false W args v W' := by
  have hW' := hW
  obtain ⟨p, q, hA0, hV, rfl, hfz, hnd⟩ := hW
  have hA : DataW.TrodAll enc Try.prog W 0 (fun _ => true) true Try.f9.params.toList args.toList ds p := hA0
  rw [Try.params9] at hA hval
  obtain ⟨v0, vs0, d0, ds0, p0, q0, hargs, rfl, rfl, h0, r0⟩ := trodAll_cons hA
  obtain ⟨v1, vs1, d1, ds1, p1, q1, rfl, rfl, rfl, h1, r1⟩ := trodAll_cons r0
  obtain ⟨v2, vs2, d2, ds2, p2, q2, rfl, rfl, rfl, h2, r2⟩ := trodAll_cons r1
  obtain ⟨v3, vs3, d3, ds3, p3, q3, rfl, rfl, rfl, h3, r3⟩ := trodAll_cons r2
  obtain ⟨rfl, rfl, rfl⟩ := trodAll_nil r3
  obtain rfl : args = #[v0, v1, v2, v3] := by cases args; simp_all
  obtain ⟨rfl, rfl⟩ := trodVars_none hV
  obtain ⟨a0, n0, k0, es0, rfl, s0, o0⟩ := argL Try.underlying22 (by rw [c5]; decide) (hval 0 22 _ rfl rfl) h0
  obtain ⟨l0, rfl, w0⟩ := intsRd Try.underlying5 o0
  rw [c5] at s0
  obtain ⟨i1, rfl, w1⟩ := argI Try.underlying5 (hval 1 5 _ rfl rfl) h1
  obtain ⟨i2, rfl, w2⟩ := argI Try.underlying5 (hval 2 5 _ rfl rfl) h2
  obtain ⟨i3, rfl, w3⟩ := argI Try.underlying3 (hval 3 3 _ rfl rfl) h3
  refine (Fc.run (limits_ok [] (imgOf W) a0 n0 k0 l0 i1 i2 i3 (fun x hx => wfU8 (w0 x hx)) (wfU8 w1) (wfU8 w2) (wfI64 w3) s0)).mono ?_
  rintro e W' ⟨v, own', g', rfl, hk, _, ⟨_, rfl⟩, _⟩
  exact ⟨_, rfl, post_of_kept (pv := []) hW' hk (fun _ _ _ => trodAll_cons_mk (shut_bool Try.underlying4 _) trodAll_mk0)
    (fun sp hsp => hk.all laidOut (by kernel_rfl) hA0 (fun x hx => hW'.lt x (by simpa using hx)) (fun x hx => hsp x (by simpa using hx))) (fun _ _ => rfl) rfl (ok_one (by kernel_rfl) rfl (okWide_bool_mk Try.underlying4 _))⟩
set_option maxRecDepth 100000 in
theorem limits_lifted (os : Os) (started : os.Started) (H : Type) (enc : TypeId × Value → H) :
    ReturnsInHanded {} Try.checked os 9 .any (Rows.measureLimitsSpec.pre6 enc Try.prog Try.f9 Rows.measureLimitsRow.domain false) (Rows.measureLimitsSpec.post enc Try.prog Try.f9 false true false false) := by
  refine returnsInHanded_of_change (C := Try.checked) own started (by kernel_rfl) Try.func9
    (ChangeSpec.witness6 (enc := enc) (C := Try.checked) false ⟨#[], #[.slice none 0 0, .int .u8 0, .int .u8 0, .int .i64 0], []⟩ 8 (by kernel_rfl) (by kernel_rfl) (by kernel_rfl) (by kernel_rfl)) ?_
  intro W base args ds gs before hval hW _ _
  exact limits_contract H enc W base args ds gs before hval hW
theorem limits_said : Rows.MeasureLimitsSaid :=
  OpenClaim.holds_of_wide 9 Try.f9 rfl rfl rfl rfl rfl rfl rfl ⟨rfl, rfl, rfl, rfl, rfl⟩ rfl rfl rfl rfl rfl (by kernel_rfl) Try.func9 (by kernel_rfl)
    (of_decide_eq_true (by kernel_rfl)) (by unfold Func.isWrapper; first | (rw [if_pos (by decide +kernel)]; kernel_rfl) | (rw [if_neg (by decide +kernel)]; exact ⟨rfl, rfl⟩))
    (fun os started H enc _ => limits_lifted os started H enc)
#print axioms limits_said
end Go.Proofs.Ytbdnfllpdlbboaa
