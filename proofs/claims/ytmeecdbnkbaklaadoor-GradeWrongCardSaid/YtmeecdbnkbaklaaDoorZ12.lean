/- The card of GradeFair: more progress, fewer days, an earlier attempt or fewer hints never give fewer points; no condition. -/
import Derived.Test.YtmeecdbnkbaklaaDoorZ11
import Derived.Test.YtmeecdbnkbaklaaDoorCards
import Derived.Test.YtmeecdbnkbaklaaDoorTie
import Derived.Deep.DeepHandedRow
import Derived.Stop.Joined
namespace Go.Proofs.YtmeecdbnkbaklaaDoor
open Go Go.Zed Go.ChangeShapes Go.WideShapes Go.ChangeAt Go.RowKit
theorem door_met (os : Os) (args : Array Value) : laidMetH Tryd.prog [("lyceum/grade.ways", Rows.laid_lyceum_grade_ways)] ((World.doorLaid Tryd.prog 600 os).forCall (fun _ _ => 0) ⟨#[], args, []⟩).memory :=
  laidMetH_of_parts3 (fuel := 8) (laidMet_of_run' 8 (by kernel_rfl) (by kernel_rfl)) (by kernel_rfl) (by kernel_rfl)
def zbld : Value := .agg #[.int .u16 0, .int .u8 0, .int .u8 0, .int .u8 0, .int .u8 0, .int .u8 0, .slice none 0 0, .slice none 0 0]
def zthree : Value := .agg #[.int .u8 0, .int .u8 0, .int .u8 0]
theorem fair_reads (os : Os) {H : Type} (enc : TypeId × Value → H) : ∃ ds places, DataW.whole enc Tryd.prog ((World.doorLaid Tryd.prog 600 os).forCall (fun _ _ => 0) ⟨#[], #[zbld, .int .u64 0, .int .u64 0, zthree, zthree], []⟩).memory Tryd.f3.params.toList Rows.gradeFairSpec.vars false (#[zbld, .int .u64 0, .int .u64 0, zthree, zthree] : Array Value).toList 8 = some (ds, [], places) :=
  ⟨[.agg [.lit (.int .u16 0), .lit (.int .u8 0), .lit (.int .u8 0), .lit (.int .u8 0), .lit (.int .u8 0), .lit (.int .u8 0), .nil, .nil], .lit (.int .u64 0), .lit (.int .u64 0), .agg [.lit (.int .u8 0), .lit (.int .u8 0), .lit (.int .u8 0)], .agg [.lit (.int .u8 0), .lit (.int .u8 0), .lit (.int .u8 0)]], [], by kernel_rfl⟩
set_option maxRecDepth 100000 in
theorem fair_lifted (os : Os) (started : os.Started) (H : Type) (enc : TypeId × Value → H) (F : Stop.Interp) :
    ReturnsInHanded {} Tryd.checked os 3 .any ((OpenSpec.ofChange Rows.gradeFairSpec).preRow enc Tryd.prog Tryd.f3 Rows.gradeFairRow.domain false Rows.gradeFairRow.laid) (((OpenSpec.ofChange Rows.gradeFairSpec).at F).post enc Tryd.prog Tryd.f3 false true false false) := by
  obtain ⟨ds, places, hx⟩ := fair_reads os enc
  refine returnsInHanded_of_row (C := Tryd.checked) (s := OpenSpec.ofChange Rows.gradeFairSpec) own started (by kernel_rfl) Tryd.func3
    (witness_row_at (enc := enc) (C := Tryd.checked) false (World.doorLaid Tryd.prog 600 os) #[zbld, .int .u64 0, .int .u64 0, zthree, zthree] rfl (by kernel_rfl) (by kernel_rfl) (by kernel_rfl)
      (OpenSpec.preRow_of_cond 8 hx (by kernel_rfl) (fun k hk => by cases hk) (by kernel_rfl) (door_met os _))) ?_
  intro W base args ds gs before hval hW _ _ _ hL _ _
  exact fair_contract H enc W base args ds gs before hval hW hL
theorem fair_said : Rows.GradeFairSaid :=
  OpenClaim.holds_of_cond 3 Tryd.f3 rfl rfl rfl rfl rfl rfl rfl ⟨rfl, rfl, rfl, rfl, rfl⟩ rfl rfl rfl rfl rfl (by kernel_rfl) Tryd.func3 (by kernel_rfl)
    (of_decide_eq_true (by kernel_rfl)) (by unfold Func.isWrapper; first | (rw [if_pos (by decide +kernel)]; kernel_rfl) | (rw [if_neg (by decide +kernel)]; exact ⟨rfl, rfl⟩))
    (fun os started H enc _ F => by rw [OpenClaim.pre_eq_preRow]; exact fair_lifted os started H enc F)
theorem fair_plain (f : FuncId) (fn : Func) (hf : Tryd.pinned.checked.prog.funcNamed "lyceum/lyceumlaw32.GradeFair" = some f) (hfn : Tryd.pinned.checked.prog.funcs[f]? = some fn) :
    false = Tryd.pinned.checked.prog.looks [] ∧ ∀ (j : Nat) t, fn.params[j]? = some t → Tryd.pinned.checked.prog.wantsStandIn t = false := by
  obtain rfl : f = 3 := Option.some.inj ((show Tryd.prog.funcNamed "lyceum/lyceumlaw32.GradeFair" = some 3 by kernel_rfl).symm.trans hf) |>.symm
  obtain rfl : fn = Tryd.f3 := (Option.some.inj (Tryd.func3.symm.trans hfn)).symm
  refine ⟨by kernel_rfl, fun j t ht => ?_⟩
  rw [Tryd.params3] at ht
  have hm := Array.mem_of_getElem? ht
  simp only [List.mem_toArray, List.mem_cons, List.not_mem_nil, or_false] at hm
  rcases hm with rfl | rfl | rfl | rfl | rfl
  · exact (show Tryd.prog.wantsStandIn 25 = false by kernel_rfl)
  · exact (show Tryd.prog.wantsStandIn 26 = false by kernel_rfl)
  · exact (show Tryd.prog.wantsStandIn 26 = false by kernel_rfl)
  · exact (show Tryd.prog.wantsStandIn 27 = false by kernel_rfl)
  · exact (show Tryd.prog.wantsStandIn 27 = false by kernel_rfl)
theorem fair_card : Rows.GradeFairCardSaid :=
  Claim7.holds_tied_plain_at .later [] _ _ _ _ fair_said (fun _ h => by cases h) (by kernel_rfl) (fun _ h => by cases h) gradeFair_row_tie rfl ⟨rfl, rfl⟩ (by kernel_rfl) rfl fair_plain (by kernel_rfl)
#print axioms fair_card
end Go.Proofs.YtmeecdbnkbaklaaDoor
