import Derived.Test.YtbdnfllpdlbboaaZ14
import Derived.Test.YtbdnfllpdlbboaaZedX
namespace Go.Proofs.Ytbdnfllpdlbboaa
open Go Go.Zed
set_option maxRecDepth 100000
/-! ### Proofs as arguments -/
section
variable {H : Type} {enc : TypeId × Value → H} {w : World} {sp : Nat → Bool} {held : Bool}
theorem k3 : Try.prog.cellsOf 3 = 1 := by kernel_rfl
theorem k4 : Try.prog.cellsOf 4 = 1 := by kernel_rfl
theorem k5 : Try.prog.cellsOf 5 = 1 := by kernel_rfl
theorem k9 : Try.prog.cellsOf 9 = 1 := by kernel_rfl
theorem k23 : Try.prog.cellsOf 23 = 1 := by kernel_rfl
theorem k24 : Try.prog.cellsOf 24 = 1 := by kernel_rfl
theorem k26 : Try.prog.cellsOf 26 = 4 := by kernel_rfl
theorem k27 : Try.prog.cellsOf 27 = 1 := by kernel_rfl
theorem k28 : Try.prog.cellsOf 28 = 1 := by kernel_rfl
theorem k30 : Try.prog.cellsOf 30 = 8 := by kernel_rfl
theorem k37 : Try.prog.cellsOf 37 = 1 := by kernel_rfl
theorem k102 : Try.prog.cellsOf 102 = 3 := by kernel_rfl
theorem rd_ints {m : Nat} {cs : List Value} (h : RdN enc Try.prog w sp held m 37 cs) : ∃ x l, vals x = cs ∧ shL x = [slD 1 (encI l)] ∧ RpUL (imgOf w) x := by
  obtain ⟨a, n, cap, es, l, rfl, _, _, h1, h2, h3⟩ := rdu_slice (T := 3) (f := fun i : Int => [DV.at (.int .i64 i)]) Try.underlying37 k3 (by decide) h fun m' cs _ hr => by
    obtain ⟨i, rfl, _⟩ := Rd.int Try.underlying3 hr.rd
    exact ⟨[.at (.int .i64 i)], i, rfl, rfl, .cons (.at _ rfl) .nil⟩
  exact ⟨[.sl 3 1 a n cap es], l, rfl, by rw [shL, shL, sh_slD h1 (by simpa using h2)], .cons h3 .nil⟩
theorem rd_term : ∀ (m : Nat) (cs : List Value), RdN enc Try.prog w sp held m 102 cs → ∃ x t, vals x = cs ∧ shL x = encT t ∧ RpUL (imgOf w) x := by
  intro m
  induction m using Nat.strongRecOn with
  | ind m ih =>
    intro cs h
    obtain ⟨hl, m', hm, hf⟩ := h.struct Try.underlying102
    rw [k102] at hl
    match cs, hl with
    | [v0, v1, v2], _ =>
      have g : ∀ (i : Nat) (f : Field), _ → _ := fun i f hi => hf f (List.mem_of_getElem? (i := i) hi)
      obtain ⟨b, e0⟩ := Rd.bool Try.underlying4 (g 0 _ rfl).rd
      obtain ⟨s, e1, _⟩ := Rd.string Try.underlying9 (g 1 _ rfl).rd
      obtain ⟨a, n, cap, es, l, e2, _, _, h1, h2, h3⟩ := rdu_slice (T := 102) (f := encT) Try.underlying23 k102 (by decide) (g 2 _ rfl) fun m2 cs hm2 hr => ih m2 (by omega) cs hr
      simp only [k4, k9, k23] at e0 e1 e2
      simp at e0 e1 e2
      subst e0 e1 e2
      exact ⟨[.at (.bool b), .at (.string s), .sl 102 3 a n cap es], .mk b s l, rfl, by rw [encT, shL, shL, shL, shL, sh_slD (l := encTs l) (by rw [encTs_map]; exact h1) (by rw [encTs_map, List.length_map]; exact h2)]; rfl, .cons (.at _ rfl) (.cons (.at _ rfl) (.cons h3 .nil))⟩
theorem rd_form : ∀ (m : Nat) (cs : List Value), RdN enc Try.prog w sp held m 26 cs → ∃ x t, vals x = cs ∧ shL x = encF t ∧ RpUL (imgOf w) x := by
  intro m
  induction m using Nat.strongRecOn with
  | ind m ih =>
    intro cs h
    obtain ⟨hl, m', hm, hf⟩ := h.struct Try.underlying26
    rw [k26] at hl
    match cs, hl with
    | [v0, v1, v2, v3], _ =>
      have g : ∀ (i : Nat) (f : Field), _ → _ := fun i f hi => hf f (List.mem_of_getElem? (i := i) hi)
      obtain ⟨o, e0, _⟩ := Rd.int Try.underlying5 (g 0 _ rfl).rd
      obtain ⟨s, e1, _⟩ := Rd.string Try.underlying9 (g 1 _ rfl).rd
      obtain ⟨a, n, cap, es, l, e2, _, _, h1, h2, h3⟩ := rdu_slice (T := 102) (f := encT) Try.underlying23 k102 (by decide) (g 2 _ rfl) fun m2 cs hm2 hr => rd_term m2 cs hr
      obtain ⟨a', n', cap', es', l', e3, _, _, h1', h2', h3'⟩ := rdu_slice (T := 26) (f := encF) Try.underlying24 k26 (by decide) (g 3 _ rfl) fun m2 cs hm2 hr => ih m2 (by omega) cs hr
      simp only [k5, k9, k23, k24] at e0 e1 e2 e3
      simp at e0 e1 e2 e3
      subst e0 e1 e2 e3
      exact ⟨[.at (.int .u8 o), .at (.string s), .sl 102 3 a n cap es, .sl 26 4 a' n' cap' es'], .mk o s l l', rfl, by rw [encF, shL, shL, shL, shL, shL, sh_slD (l := encTs l) (by rw [encTs_map]; exact h1) (by rw [encTs_map, List.length_map]; exact h2), sh_slD (l := encFs l') (by rw [encFs_map]; exact h1') (by rw [encFs_map, List.length_map]; exact h2')]; rfl,
        .cons (.at _ rfl) (.cons (.at _ rfl) (.cons h3 (.cons h3' .nil)))⟩
theorem rd_proof : ∀ (m : Nat) (cs : List Value), RdN enc Try.prog w sp held m 30 cs → ∃ x t, vals x = cs ∧ shL x = encP t ∧ RpUL (imgOf w) x := by
  intro m
  induction m using Nat.strongRecOn with
  | ind m ih =>
    intro cs h
    obtain ⟨hl, m', hm, hf⟩ := h.struct Try.underlying30
    rw [k30] at hl
    match cs, hl with
    | [v0, v1, v2, v3, v4, v5, v6, v7], _ =>
      have g : ∀ (i : Nat) (f : Field), _ → _ := fun i f hi => hf f (List.mem_of_getElem? (i := i) hi)
      obtain ⟨r, e0, _⟩ := Rd.string Try.underlying9 (g 0 _ rfl).rd
      obtain ⟨xf, f, ef, hsf, huf⟩ := rd_form m' _ (g 1 _ rfl)
      obtain ⟨lab, e5, _⟩ := Rd.int Try.underlying3 (g 2 _ rfl).rd
      obtain ⟨a, n, cap, es, l, e6, _, _, h1, h2, h3⟩ := rdu_slice (T := 30) (f := encP) Try.underlying27 k30 (by decide) (g 3 _ rfl) fun m2 cs hm2 hr => ih m2 (by omega) cs hr
      obtain ⟨a', n', cap', es', l', e7, _, _, h1', h2', h3'⟩ := rdu_slice (T := 37) (f := fun l : List Int => [slD 1 (encI l)]) Try.underlying28 k37 (by decide) (g 4 _ rfl) fun m2 cs hm2 hr => rd_ints hr
      simp only [k9, k26, k3, k27, k28] at e0 ef e5 e6 e7
      simp at e0 ef e5 e6 e7
      subst e0 e5 e6 e7
      refine ⟨.at (.string r) :: (xf ++ [.at (.int .i64 lab), .sl 30 8 a n cap es, .sl 37 1 a' n' cap' es']), .mk r f lab l l', ?_, ?_, ?_⟩
      · rw [vals, List.map_cons, List.map_append, show xf.map DV.v = [v1, v2, v3, v4] from ef]; rfl
      · rw [encP, shL, shL_map, List.map_append, ← shL_map, hsf]
        simp only [List.map_cons, List.map_nil]
        rw [sh_slD (l := encPs l) (by rw [encPs_map]; exact h1) (by rw [encPs_map, List.length_map]; exact h2), sh_slD (sz := 1) (l := encM l') h1' (by simpa using h2')]; rfl
      · refine .cons (.at _ rfl) fun d hd => ?_
        rcases List.mem_append.1 hd with hd | hd
        · exact huf d hd
        · exact (RpUL.cons (.at _ rfl) (.cons h3 (.cons h3' .nil))) d hd
end
end Go.Proofs.Ytbdnfllpdlbboaa
