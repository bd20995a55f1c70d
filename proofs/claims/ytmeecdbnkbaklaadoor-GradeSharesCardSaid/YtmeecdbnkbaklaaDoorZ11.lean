import Derived.Test.YtmeecdbnkbaklaaDoorZ10
namespace Go.Proofs.YtmeecdbnkbaklaaDoor
open Go Go.Zed Go.ChangeShapes Go.WideShapes Go.ChangeAt Go.RowKit
section
variable {H : Type} {enc : TypeId × Value → H} {w : World} {sp : Nat → Bool} {held : Bool}
theorem wf8 {n : Int} (h : (Lit.int .u8 n).wf = true) : 0 ≤ n ∧ n ≤ 255 := by
  simp only [Lit.wf, Bool.and_eq_true, decide_eq_true_eq] at h
  exact h
theorem wf16 {n : Int} (h : (Lit.int .u16 n).wf = true) : 0 ≤ n ∧ n ≤ 65535 := by
  simp only [Lit.wf, Bool.and_eq_true, decide_eq_true_eq] at h
  exact h
theorem wf64 {n : Int} (h : (Lit.int .u64 n).wf = true) : 0 ≤ n ∧ n ≤ 18446744073709551615 := by
  simp only [Lit.wf, Bool.and_eq_true, decide_eq_true_eq] at h
  exact h
theorem bytes_of {es : List (List Value)} (h : ∀ x ∈ es, Rd enc Tryd.prog w sp held 5 x) : ∃ l : List Int, es = l.map (fun x => [.int .u8 x]) ∧ ∀ x ∈ l, 0 ≤ x ∧ x ≤ 255 := by
  induction es with
  | nil => exact ⟨[], rfl, by simp⟩
  | cons y es ih =>
    obtain ⟨l, rfl, hl⟩ := ih fun x hx => h x (List.mem_cons_of_mem _ hx)
    obtain ⟨n, rfl, hn⟩ := (h y (List.mem_cons_self ..)).int Tryd.underlying5
    refine ⟨n :: l, rfl, fun x hx => ?_⟩
    rcases List.mem_cons.1 hx with rfl | hx
    · exact wf8 hn
    · exact hl x hx
theorem c5 : Tryd.prog.cellsOf 5 = 1 := by kernel_rfl
theorem c22 : Tryd.prog.cellsOf 22 = 1 := by kernel_rfl
theorem c23 : Tryd.prog.cellsOf 23 = 1 := by kernel_rfl
theorem c25 : Tryd.prog.cellsOf 25 = 8 := by kernel_rfl
theorem c27 : Tryd.prog.cellsOf 27 = 3 := by kernel_rfl
theorem open25 {cs : List Value} (h : Rd enc Tryd.prog w sp held 25 cs) : ∃ (b : Bld) (a1 a2 : Option Addr) (n1 n2 c1 c2 : Nat), cs = bldL b a1 a2 n1 n2 c1 c2 ∧ (b.ok ∧ Sl (imgOf w) 1 a1 n1 (b.l1.map fun x => [.int .u8 x]) ∧ Sl (imgOf w) 1 a2 n2 (b.l2.map fun x => [.int .u8 x])) := by
  obtain ⟨hl, hf⟩ := h.struct Tryd.underlying25
  rw [c25] at hl
  match cs, hl with
  | [v0, v1, v2, v3, v4, v5, v6, v7], _ =>
    have g : ∀ (i : Nat) (f : Field), _ → _ := fun i f hi => hf f (List.mem_of_getElem? (i := i) hi)
    obtain ⟨x0, e0, h0⟩ := Rd.int Tryd.underlying22 (g 0 _ rfl)
    obtain ⟨x1, e1, h1⟩ := Rd.int Tryd.underlying5 (g 1 _ rfl)
    obtain ⟨x2, e2, h2⟩ := Rd.int Tryd.underlying5 (g 2 _ rfl)
    obtain ⟨x3, e3, h3⟩ := Rd.int Tryd.underlying5 (g 3 _ rfl)
    obtain ⟨x4, e4, h4⟩ := Rd.int Tryd.underlying5 (g 4 _ rfl)
    obtain ⟨x5, e5, h5⟩ := Rd.int Tryd.underlying5 (g 5 _ rfl)
    obtain ⟨a1, n1, p1, s1, e6, _, _, hs1, hr1⟩ := Rd.slice Tryd.underlying23 (by rw [c5]; decide) (g 6 _ rfl)
    obtain ⟨a2, n2, p2, s2, e7, _, _, hs2, hr2⟩ := Rd.slice Tryd.underlying23 (by rw [c5]; decide) (g 7 _ rfl)
    simp only [c22] at e0
    simp only [c5] at e1 e2 e3 e4 e5 hs1 hs2
    simp only [c23] at e6 e7
    obtain ⟨l1, rfl, hl1⟩ := bytes_of hr1
    obtain ⟨l2, rfl, hl2⟩ := bytes_of hr2
    simp at e0 e1 e2 e3 e4 e5 e6 e7
    subst e0 e1 e2 e3 e4 e5 e6 e7
    exact ⟨⟨x0, x1, x2, x3, x4, x5, l1, l2⟩, a1, a2, n1, n2, p1, p2, rfl, ⟨wf16 h0, wf8 h1, wf8 h2, wf8 h3, wf8 h4, wf8 h5, hl1, hl2⟩, hs1, hs2⟩
theorem open27 {cs : List Value} (h : Rd enc Tryd.prog w sp held 27 cs) : ∃ x y z : Int, cs = [.int .u8 x, .int .u8 y, .int .u8 z] ∧ (0 ≤ x ∧ x ≤ 255) ∧ (0 ≤ y ∧ y ≤ 255) ∧ (0 ≤ z ∧ z ≤ 255) := by
  obtain ⟨hl, hf⟩ := h.array Tryd.underlying27
  rw [c27] at hl
  match cs, hl with
  | [v0, v1, v2], _ =>
    obtain ⟨x0, e0, h0⟩ := Rd.int Tryd.underlying5 (hf 0 (by decide))
    obtain ⟨x1, e1, h1⟩ := Rd.int Tryd.underlying5 (hf 1 (by decide))
    obtain ⟨x2, e2, h2⟩ := Rd.int Tryd.underlying5 (hf 2 (by decide))
    simp only [c5] at e0 e1 e2
    simp at e0 e1 e2
    subst e0 e1 e2
    exact ⟨x0, x1, x2, rfl, wf8 h0, wf8 h1, wf8 h2⟩
end
theorem fair_contract (H : Type) (enc : TypeId × Value → H) (W : World) (base : Nat) (args : Array Value) (ds gs : List (DataW H)) (before : List MemPlace)
    (hval : ∀ (j : Nat) t v, Tryd.f3.params[j]? = some t → args[j]? = some v → Value.okWide Tryd.prog W .any base t v)
    (hW : DataW.Whole enc Tryd.prog Tryd.f3.params.toList Rows.gradeFairSpec.vars false W args.toList ds gs before) (hL : laidMetH Tryd.prog Rows.gradeFairRow.laid W) :
    Calls Tryd.prog 3 args W fun e W' => ∃ v, e = .returned v ∧ Rows.gradeFairSpec.post enc Tryd.prog Tryd.f3 false true false false W args v W' := by
  have hW' := hW
  obtain ⟨p, q, hA0, hV, rfl, hfz, hnd⟩ := hW
  have hA : DataW.TrodAll enc Tryd.prog W 0 (fun _ => true) true Tryd.f3.params.toList args.toList ds p := hA0
  rw [Tryd.params3] at hA hval
  obtain ⟨v0, vs0, d0, ds0, p0, q0, hargs, rfl, rfl, h0, r0⟩ := trodAll_cons hA
  obtain ⟨v1, vs1, d1, ds1, p1, q1, rfl, rfl, rfl, h1, r1⟩ := trodAll_cons r0
  obtain ⟨v2, vs2, d2, ds2, p2, q2, rfl, rfl, rfl, h2, r2⟩ := trodAll_cons r1
  obtain ⟨v3, vs3, d3, ds3, p3, q3, rfl, rfl, rfl, h3, r3⟩ := trodAll_cons r2
  obtain ⟨v4, vs4, d4, ds4, p4, q4, rfl, rfl, rfl, h4, r4⟩ := trodAll_cons r3
  obtain ⟨rfl, rfl, rfl⟩ := trodAll_nil r4
  obtain rfl : args = #[v0, v1, v2, v3, v4] := by cases args; simp_all
  obtain ⟨rfl, rfl⟩ := trodVars_none hV
  have hall := hA
  obtain ⟨cs0, rfl, o0⟩ := argS Tryd.underlying25 (hval 0 25 _ rfl rfl) h0
  obtain ⟨x1, rfl, rfl, rfl, w1⟩ := open_int Tryd.underlying26 (hval 1 26 v1 rfl rfl) h1
  obtain ⟨x2, rfl, rfl, rfl, w2⟩ := open_int Tryd.underlying26 (hval 2 26 v2 rfl rfl) h2
  obtain ⟨cs3, rfl, o3⟩ := argA Tryd.underlying27 (hval 3 27 _ rfl rfl) h3
  obtain ⟨cs4, rfl, o4⟩ := argA Tryd.underlying27 (hval 4 27 _ rfl rfl) h4
  obtain ⟨b, a1, a2, n1, n2, c1, c2, rfl, hb⟩ := open25 o0
  obtain ⟨y1, y2, y3, rfl, b1, b2, b3⟩ := open27 o3
  obtain ⟨z1, z2, z3, rfl, b4, b5, b6⟩ := open27 o4
  refine (Fc.run (fair_ok [] (imgOf W) b a1 a2 n1 n2 c1 c2 hb (ways_of hL) x1 x2 y1 y2 y3 z1 z2 z3 (wf64 w1) (wf64 w2) b1 b2 b3 b4 b5 b6)).mono ?_
  rintro e W' ⟨v, own', g', rfl, hk, _, ⟨_, rfl⟩, _⟩
  exact ⟨_, rfl, post_of_kept (pv := []) hW' hk (fun _ _ _ => trodAll_cons_mk (shut_bool Tryd.underlying4 _) trodAll_mk0)
    (fun sp hsp => hk.all laidOut (by kernel_rfl) hA0 (fun x hx => hW'.lt x (by simpa using hx)) (fun x hx => hsp x (by simpa using hx))) (fun _ _ => rfl) rfl (ok_one (by kernel_rfl) rfl (okWide_bool_mk Tryd.underlying4 _))⟩
end Go.Proofs.YtmeecdbnkbaklaaDoor
