/- MeasureTells answers true whatever its input, for any arguments: its row, said. -/
import Derived.Test.YtbdnfllpdlbboaaZ40
import Derived.Test.YtbdnfllpdlbboaaZ12
namespace Go.Proofs.Ytbdnfllpdlbboaa
open Go Go.Zed Go.ChangeShapes Go.WideShapes Go.ChangeAt Go.RowKit
theorem placesRd {H : Type} {enc : TypeId × Value → H} {w : World} {sp : Nat → Bool} {held : Bool} : ∀ {es : List (List Value)}, (∀ x ∈ es, Rd enc Try.prog w sp held 37 x) → ∃ ws : List Wp, es = ws.map (fun y => [.slice y.a y.n y.cap]) ∧ (∀ y ∈ ws, Sl (imgOf w) 1 y.a y.n (ints y.l)) ∧ ∀ y ∈ ws, y.n ≤ y.cap
  | [], _ => ⟨[], rfl, by simp, by simp⟩
  | x :: es, h => by
    obtain ⟨ys, rfl, h1, h2⟩ := placesRd (es := es) fun x hx => h x (List.mem_cons_of_mem _ hx)
    obtain ⟨a, n, cap, es1, rfl, hnc, _, hs, ho⟩ := Rd.slice Try.underlying37 (by rw [k3]; decide) (h x (List.mem_cons_self ..))
    obtain ⟨l, rfl, hl⟩ := intsRd Try.underlying3 ho
    rw [k3] at hs
    refine ⟨⟨a, n, cap, l⟩ :: ys, rfl, fun y hy' => ?_, fun y hy' => ?_⟩
    · rcases List.mem_cons.1 hy' with rfl | hy'
      · exact hs
      · exact h1 y hy'
    · rcases List.mem_cons.1 hy' with rfl | hy'
      · exact hnc
      · exact h2 y hy'
set_option maxRecDepth 100000 in
theorem tells_contract (H : Type) (enc : TypeId × Value → H) (W : World) (base : Nat) (args : Array Value) (ds gs : List (DataW H)) (before : List MemPlace)
    (hval : ∀ (j : Nat) t v, Try.f4.params[j]? = some t → args[j]? = some v → Value.okWide Try.prog W .any base t v)
    (hW : DataW.Whole enc Try.prog Try.f4.params.toList Rows.measureTellsSpec.vars false W args.toList ds gs before) :
    Calls Try.prog 4 args W fun e W' => ∃ v, e = .returned v ∧ Rows.measureTellsSpec.post enc Try.prog Try.f4 false true false false W args v W' := by
  have hW' := hW
  obtain ⟨p, q, hA0, hV, rfl, hfz, hnd⟩ := hW
  have hA : DataW.TrodAll enc Try.prog W 0 (fun _ => true) true Try.f4.params.toList args.toList ds p := hA0
  rw [Try.params4] at hA hval
  obtain ⟨v0, vs0, d0, ds0, p0, q0, hargs, rfl, rfl, h0, r0⟩ := trodAll_cons hA
  obtain ⟨v1, vs1, d1, ds1, p1, q1, rfl, rfl, rfl, h1, r1⟩ := trodAll_cons r0
  obtain ⟨rfl, rfl, rfl⟩ := trodAll_nil r1
  obtain rfl : args = #[v0, v1] := by cases args; simp_all
  obtain ⟨rfl, rfl⟩ := trodVars_none hV
  obtain ⟨cs0, rfl, m0, y0, hy0⟩ := argS Try.underlying30 (hval 0 30 _ rfl rfl) h0
  obtain ⟨x0, p0', rfl, hsh, hru⟩ := rd_proof m0 cs0 ⟨y0, hy0⟩
  obtain ⟨a1, n1, k1, es1, rfl, s1, o1⟩ := argL Try.underlying28 (by rw [k37]; decide) (hval 1 28 _ rfl rfl) h1
  obtain ⟨ws, rfl, hw1, hw2⟩ := placesRd o1
  rw [k37] at s1
  refine (Fc.run (tells_ok [] (imgOf W) hsh hru (cw := k1) ⟨s1, hw1⟩ hw2)).mono ?_
  rintro e W' ⟨v, own', g', rfl, hk, _, ⟨_, rfl⟩, _⟩
  exact ⟨_, rfl, post_of_kept (pv := []) hW' hk (fun _ _ _ => trodAll_cons_mk (shut_bool Try.underlying4 _) trodAll_mk0)
    (fun sp hsp => hk.all laidOut (by kernel_rfl) hA0 (fun x hx => hW'.lt x (by simpa using hx)) (fun x hx => hsp x (by simpa using hx))) (fun _ _ => rfl) rfl (ok_one (by kernel_rfl) rfl (okWide_bool_mk Try.underlying4 _))⟩
set_option maxRecDepth 100000 in
theorem tells_lifted (os : Os) (started : os.Started) (H : Type) (enc : TypeId × Value → H) :
    ReturnsInHanded {} Try.checked os 4 .any (Rows.measureTellsSpec.pre6 enc Try.prog Try.f4 Rows.measureTellsRow.domain false) (Rows.measureTellsSpec.post enc Try.prog Try.f4 false true false false) := by
  refine returnsInHanded_of_change (C := Try.checked) own started (by kernel_rfl) Try.func4
    (ChangeSpec.witness6 (enc := enc) (C := Try.checked) false ⟨#[], #[.agg #[.string { data := #[] }, .int .u8 0, .string { data := #[] }, .slice none 0 0, .slice none 0 0, .int .i64 0, .slice none 0 0, .slice none 0 0], .slice none 0 0], []⟩ 8 (by kernel_rfl) (by kernel_rfl) (by kernel_rfl) (by kernel_rfl)) ?_
  intro W base args ds gs before hval hW _ _
  exact tells_contract H enc W base args ds gs before hval hW
theorem tells_said : Rows.MeasureTellsSaid :=
  OpenClaim.holds_of_wide 4 Try.f4 rfl rfl rfl rfl rfl rfl rfl ⟨rfl, rfl, rfl, rfl, rfl⟩ rfl rfl rfl rfl rfl (by kernel_rfl) Try.func4 (by kernel_rfl)
    (of_decide_eq_true (by kernel_rfl)) (by unfold Func.isWrapper; first | (rw [if_pos (by decide +kernel)]; kernel_rfl) | (rw [if_neg (by decide +kernel)]; exact ⟨rfl, rfl⟩))
    (fun os started H enc _ => tells_lifted os started H enc)
#print axioms tells_said
end Go.Proofs.Ytbdnfllpdlbboaa
