/- MeasureApart answers true whatever its input, for any arguments: its row, said. -/
import Derived.Test.YtbdnfllpdlbboaaZ22
import Derived.Test.YtbdnfllpdlbboaaZ12
namespace Go.Proofs.Ytbdnfllpdlbboaa
open Go Go.Zed Go.ChangeShapes Go.WideShapes Go.ChangeAt Go.RowKit
set_option maxRecDepth 100000 in
theorem apart_contract (H : Type) (enc : TypeId × Value → H) (W : World) (base : Nat) (args : Array Value) (ds gs : List (DataW H)) (before : List MemPlace)
    (hval : ∀ (j : Nat) t v, Try.f7.params[j]? = some t → args[j]? = some v → Value.okWide Try.prog W .any base t v)
    (hW : DataW.Whole enc Try.prog Try.f7.params.toList Rows.measureApartSpec.vars false W args.toList ds gs before) :
    Calls Try.prog 7 args W fun e W' => ∃ v, e = .returned v ∧ Rows.measureApartSpec.post enc Try.prog Try.f7 false true false false W args v W' := by
  have hW' := hW
  obtain ⟨p, q, hA0, hV, rfl, hfz, hnd⟩ := hW
  have hA : DataW.TrodAll enc Try.prog W 0 (fun _ => true) true Try.f7.params.toList args.toList ds p := hA0
  rw [Try.params7] at hA hval
  obtain ⟨v0, vs0, d0, ds0, p0, q0, hargs, rfl, rfl, h0, r0⟩ := trodAll_cons hA
  obtain ⟨v1, vs1, d1, ds1, p1, q1, rfl, rfl, rfl, h1, r1⟩ := trodAll_cons r0
  obtain ⟨v2, vs2, d2, ds2, p2, q2, rfl, rfl, rfl, h2, r2⟩ := trodAll_cons r1
  obtain ⟨v3, vs3, d3, ds3, p3, q3, rfl, rfl, rfl, h3, r3⟩ := trodAll_cons r2
  obtain ⟨v4, vs4, d4, ds4, p4, q4, rfl, rfl, rfl, h4, r4⟩ := trodAll_cons r3
  obtain ⟨rfl, rfl, rfl⟩ := trodAll_nil r4
  obtain rfl : args = #[v0, v1, v2, v3, v4] := by cases args; simp_all
  obtain ⟨rfl, rfl⟩ := trodVars_none hV
  obtain ⟨a0, n0, k0, es0, rfl, s0, o0⟩ := argL Try.underlying22 (by rw [c5]; decide) (hval 0 22 _ rfl rfl) h0
  obtain ⟨l0, rfl, w0⟩ := intsRd Try.underlying5 o0
  rw [c5] at s0
  obtain ⟨a1, n1, k1, es1, rfl, s1, o1⟩ := argL Try.underlying22 (by rw [c5]; decide) (hval 1 22 _ rfl rfl) h1
  obtain ⟨l1, rfl, w1⟩ := intsRd Try.underlying5 o1
  rw [c5] at s1
  obtain ⟨a2, n2, k2, es2, rfl, s2, o2⟩ := argL Try.underlying22 (by rw [c5]; decide) (hval 2 22 _ rfl rfl) h2
  obtain ⟨l2, rfl, w2⟩ := intsRd Try.underlying5 o2
  rw [c5] at s2
  obtain ⟨i3, rfl, w3⟩ := argI Try.underlying5 (hval 3 5 _ rfl rfl) h3
  obtain ⟨i4, rfl, w4⟩ := argI Try.underlying5 (hval 4 5 _ rfl rfl) h4
  refine (Fc.run (apart_ok [] (imgOf W) a0 a1 a2 n0 n1 n2 k0 k1 k2 l0 l1 l2 i3 i4 (fun x hx => wfU8 (w0 x hx)) (fun x hx => wfU8 (w1 x hx)) (fun x hx => wfU8 (w2 x hx)) (wfU8 w3) (wfU8 w4) s0 s1 s2)).mono ?_
  rintro e W' ⟨v, own', g', rfl, hk, _, ⟨_, rfl⟩, _⟩
  exact ⟨_, rfl, post_of_kept (pv := []) hW' hk (fun _ _ _ => trodAll_cons_mk (shut_bool Try.underlying4 _) trodAll_mk0)
    (fun sp hsp => hk.all laidOut (by kernel_rfl) hA0 (fun x hx => hW'.lt x (by simpa using hx)) (fun x hx => hsp x (by simpa using hx))) (fun _ _ => rfl) rfl (ok_one (by kernel_rfl) rfl (okWide_bool_mk Try.underlying4 _))⟩
set_option maxRecDepth 100000 in
theorem apart_lifted (os : Os) (started : os.Started) (H : Type) (enc : TypeId × Value → H) :
    ReturnsInHanded {} Try.checked os 7 .any (Rows.measureApartSpec.pre6 enc Try.prog Try.f7 Rows.measureApartRow.domain false) (Rows.measureApartSpec.post enc Try.prog Try.f7 false true false false) := by
  refine returnsInHanded_of_change (C := Try.checked) own started (by kernel_rfl) Try.func7
    (ChangeSpec.witness6 (enc := enc) (C := Try.checked) false ⟨#[], #[.slice none 0 0, .slice none 0 0, .slice none 0 0, .int .u8 0, .int .u8 0], []⟩ 8 (by kernel_rfl) (by kernel_rfl) (by kernel_rfl) (by kernel_rfl)) ?_
  intro W base args ds gs before hval hW _ _
  exact apart_contract H enc W base args ds gs before hval hW
theorem apart_said : Rows.MeasureApartSaid :=
  OpenClaim.holds_of_wide 7 Try.f7 rfl rfl rfl rfl rfl rfl rfl ⟨rfl, rfl, rfl, rfl, rfl⟩ rfl rfl rfl rfl rfl (by kernel_rfl) Try.func7 (by kernel_rfl)
    (of_decide_eq_true (by kernel_rfl)) (by unfold Func.isWrapper; first | (rw [if_pos (by decide +kernel)]; kernel_rfl) | (rw [if_neg (by decide +kernel)]; exact ⟨rfl, rfl⟩))
    (fun os started H enc _ => apart_lifted os started H enc)
#print axioms apart_said
end Go.Proofs.Ytbdnfllpdlbboaa
