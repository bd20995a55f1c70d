import Derived.Test.YtmeecdbnkbaklaaDoorZ9
import Derived.Test.YtmeecdbnkbaklaaDoorRows
import Derived.Test.YtmeecdbnkbaklaaDoorZedQ
namespace Go.Proofs.YtmeecdbnkbaklaaDoor
open Go Go.Zed Go.ChangeShapes Go.WideShapes Go.ChangeAt Go.RowKit
theorem own : ownKnob Tryd.prog.godebug = none := by kernel_rfl
theorem laidOut : laidOutB Tryd.prog = true := by kernel_rfl
theorem gWays : Tryd.prog.globalNamed "lyceum/grade.ways" = some 0 := by kernel_rfl
theorem tWays : (Tryd.prog.globals[0]?).map (·.type) = some 60 := by kernel_rfl
theorem c59 : Tryd.prog.cellsOf 59 = 2 := by kernel_rfl
theorem c60 : Tryd.prog.cellsOf 60 = 8 := by kernel_rfl
theorem c54 : Tryd.prog.cellsOf 54 = 1 := by kernel_rfl
theorem ways_of {W : World} (h : laidMetH Tryd.prog [("lyceum/grade.ways", Rows.laid_lyceum_grade_ways)] W) : Mem (imgOf W) 0 0 ways := by
  obtain ⟨g, t, cs, fuel, p, hg, ht, hv, hd⟩ := h.funcs (List.mem_singleton.2 rfl)
  obtain rfl := Option.some.inj (gWays.symm.trans hg)
  obtain rfl := Option.some.inj (tWays.symm.trans ht)
  have hm := mem_of_var hg hv
  have hd' : DataW.trod (funcToken Tryd.prog) Tryd.prog W 0 (fun _ => true) true fuel 60 cs.toList = some (.agg [.agg [.nil, .nil], .agg [.held [108, 121, 99, 101, 117, 109, 47, 103, 114, 97, 100, 101, 46, 119, 97, 121, 115, 36, 49], .held [108, 121, 99, 101, 117, 109, 47, 103, 114, 97, 100, 101, 46, 119, 97, 121, 115, 36, 50]], .agg [.held [108, 121, 99, 101, 117, 109, 47, 103, 114, 97, 100, 101, 46, 119, 97, 121, 115, 36, 51], .held [108, 121, 99, 101, 117, 109, 47, 103, 114, 97, 100, 101, 46, 119, 97, 121, 115, 36, 52]], .agg [.held [108, 121, 99, 101, 117, 109, 47, 103, 114, 97, 100, 101, 46, 119, 97, 121, 115, 36, 53], .held [108, 121, 99, 101, 117, 109, 47, 103, 114, 97, 100, 101, 46, 119, 97, 121, 115, 36, 54]]], p) := hd
  generalize cs.toList = l at hm hd'
  obtain ⟨hl, hel⟩ := trodArr Tryd.underlying60 hd'
  rw [c60] at hl
  match l, hl with
  | [v0, v1, v2, v3, v4, v5, v6, v7], _ =>
    have key : ∀ i d1 d2 x y, i < 4 → [DataW.agg [.nil, .nil], .agg [.held [108, 121, 99, 101, 117, 109, 47, 103, 114, 97, 100, 101, 46, 119, 97, 121, 115, 36, 49], .held [108, 121, 99, 101, 117, 109, 47, 103, 114, 97, 100, 101, 46, 119, 97, 121, 115, 36, 50]], .agg [.held [108, 121, 99, 101, 117, 109, 47, 103, 114, 97, 100, 101, 46, 119, 97, 121, 115, 36, 51], .held [108, 121, 99, 101, 117, 109, 47, 103, 114, 97, 100, 101, 46, 119, 97, 121, 115, 36, 52]], .agg [.held [108, 121, 99, 101, 117, 109, 47, 103, 114, 97, 100, 101, 46, 119, 97, 121, 115, 36, 53], .held [108, 121, 99, 101, 117, 109, 47, 103, 114, 97, 100, 101, 46, 119, 97, 121, 115, 36, 54]]][i]? = some (DataW.agg [d1, d2]) →
        ((([v0, v1, v2, v3, v4, v5, v6, v7] : List Value).drop (i * 2)).take 2) = [x, y] → (∃ m q, DataW.trod (funcToken Tryd.prog) Tryd.prog W 0 (fun _ => true) true m 54 [x] = some (d1, q)) ∧ (∃ m q, DataW.trod (funcToken Tryd.prog) Tryd.prog W 0 (fun _ => true) true m 54 [y] = some (d2, q)) := by
      intro i d1 d2 x y hi hd hxy
      obtain ⟨m, q, he⟩ := hel i _ hi hd
      rw [c59, hxy] at he
      obtain ⟨_, hf⟩ := trodStr Tryd.underlying59 he
      obtain ⟨m1, q1, h1⟩ := hf 0 _ _ rfl rfl
      obtain ⟨m2, q2, h2⟩ := hf 1 _ _ rfl rfl
      simp only [c54] at h1 h2
      exact ⟨⟨m1, q1, h1⟩, ⟨m2, q2, h2⟩⟩
    obtain ⟨⟨_, _, a0⟩, ⟨_, _, a1⟩⟩ := key 0 _ _ v0 v1 (by decide) rfl rfl
    obtain ⟨⟨_, _, a2⟩, ⟨_, _, a3⟩⟩ := key 1 _ _ v2 v3 (by decide) rfl rfl
    obtain ⟨⟨_, _, a4⟩, ⟨_, _, a5⟩⟩ := key 2 _ _ v4 v5 (by decide) rfl rfl
    obtain ⟨⟨_, _, a6⟩, ⟨_, _, a7⟩⟩ := key 3 _ _ v6 v7 (by decide) rfl rfl
    obtain rfl := trodNilF Tryd.underlying54 a0
    obtain rfl := trodNilF Tryd.underlying54 a1
    obtain rfl := func_of_trod (f0 := 36) Tryd.underlying54 (by kernel_rfl) a2
    obtain rfl := func_of_trod (f0 := 37) Tryd.underlying54 (by kernel_rfl) a3
    obtain rfl := func_of_trod (f0 := 38) Tryd.underlying54 (by kernel_rfl) a4
    obtain rfl := func_of_trod (f0 := 39) Tryd.underlying54 (by kernel_rfl) a5
    obtain rfl := func_of_trod (f0 := 40) Tryd.underlying54 (by kernel_rfl) a6
    obtain rfl := func_of_trod (f0 := 41) Tryd.underlying54 (by kernel_rfl) a7
    exact hm
end Go.Proofs.YtmeecdbnkbaklaaDoor
