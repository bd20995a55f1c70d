import Derived.Test.YtbdnfllpdlbboaaZT
import Derived.Test.YtbdnfllpdlbboaaZedM
namespace Go.Proofs.Ytbdnfllpdlbboaa
open Go Go.Zed
attribute [local irreducible] R RO RD OpOk QOk
set_option maxRecDepth 10000
set_option maxHeartbeats 4000000
theorem mo : Try.prog.follows .mixedOrders = true := by kernel_rfl
/-! ### Proofs, as they lie -/
structure Slc where
  (a : Option Addr) (n cap : Nat)
@[reducible] def Slc.v (s : Slc) : Value := .slice s.a s.n s.cap
/-- The head of a step: its rule, its formula's fields, its label, its slices. -/
structure PH where
  (r : ByteArray) (o : Int) (nm : ByteArray) (ar fs : Slc) (lab : Int) (sl ms : Slc)
@[reducible] def PH.cells (h : PH) : List Value := [.string h.r, .int .u8 h.o, .string h.nm, .slice h.ar.a h.ar.n h.ar.cap, .slice h.fs.a h.fs.n h.fs.cap, .int .i64 h.lab, .slice h.sl.a h.sl.n h.sl.cap, .slice h.ms.a h.ms.n h.ms.cap]
inductive PT where
  | mk (h : PH) (sub : List PT)
@[reducible] def PT.h : PT → PH | .mk h _ => h
@[reducible] def PT.sub : PT → List PT | .mk _ s => s
inductive Rep (g : Img) : PT → Prop
  | mk {h : PH} {sub : List PT} (hs : Sl g 8 h.sl.a h.sl.n (sub.map fun t => t.h.cells)) (hn : sub.length ≤ 1000000) (hq : ∀ q ∈ sub, Rep g q) : Rep g (.mk h sub)
theorem Rep.mono {g g' : Img} {t : PT} (h : Rep g t) (hl : Le g g') : Rep g' t := by
  induction h with
  | mk hs hn _ ih => exact .mk (hs.mono hl) hn ih
@[reducible] def ints (l : List Int) : List (List Value) := l.map fun i => [.int .i64 i]
theorem ints_one {l : List Int} : ∀ u ∈ (ints l).flatten, u.oneCell' = true := by
  intro u hu
  simp only [ints, List.mem_flatten, List.mem_map] at hu
  obtain ⟨x, ⟨i, _, rfl⟩, hu⟩ := hu
  simp at hu; subst hu; rfl
theorem ints_el {l : List Int} : ∀ x ∈ ints l, x.length = 1 := by
  intro x hx
  simp only [ints, List.mem_map] at hx
  obtain ⟨i, _, rfl⟩ := hx; rfl
/-- A step that is visited. -/
structure Stp where
  (place : List Int) (w : Int) (p : PT)
mutual
def steps (skip : List Int → Bool) (place : List Int) (w : Int) : PT → List Stp
  | .mk h sub => ⟨place, w, .mk h sub⟩ :: (if skip place then [] else stepsL skip place (w / (2 * sub.length)) 0 sub)
def stepsL (skip : List Int → Bool) (place : List Int) (w : Int) (i : Int) : List PT → List Stp
  | [] => []
  | t :: ts => steps skip (place ++ [i]) w t ++ stepsL skip place w (i + 1) ts
end
def StpE (x : Stp) (g : Img) (vs : List Value) : Prop := ∃ a n cap, vs = [.agg (.slice a n cap :: .int .i64 x.w :: x.p.h.cells).toArray] ∧ Sl g 1 a n (ints x.place) ∧ Rep g x.p
/-! ### Clone -/
theorem clone_ok (F : Frag) (g : Img) (a : Option Addr) (n cap : Nat) (l : List Int) (hs : Sl g 1 a n (ints l)) (hn : l.length ≤ 1000000000000) :
    Fc Try.prog 44 #[.slice a n cap] [] F g (fun v own' g' => g' = g ∧ ∃ a' c', v = .slice a' n c' ∧ own' = [sl 3 1 a' n c' (ints l)]) := by
  have hnl : n = l.length := by simpa using hs.len
  have hone := ints_one (l := l)
  refine Fc.of_body (args := [_]) Try.func44 rfl rfl ?_
  cases a with
  | none =>
    have hl : l = [] := by
      cases l with
      | nil => rfl
      | cons x t => obtain ⟨b, off, h, _⟩ := hs.at_ 0 _ rfl; cases h
    subst hl
    obtain rfl : n = 0 := by simpa using hnl
    repeat' (first | refine R.seq ?_ | refine R.skip ?_ | refine R.inBlock ?_ | refine R.block ?_ | refine R.condT rfl ?_ | refine R.condF rfl ?_ | refine R.exit rfl ?_ | refine R.label ?_ | (refine R.region (id := 0) ?_; all_goals (refine RO.q0 rfl (QOk.assign rfl) rfl ?_); all_goals refine RO.nil ?_) | (refine R.region (id := 1) ?_; all_goals (refine RO.q0 rfl (QOk.move rfl) rfl ?_); all_goals (first | refine RO.q0 rfl (QOk.cmpT rfl rfl rfl (by first | decide | omega)) rfl ?_ | refine RO.q0 rfl (QOk.cmpF rfl rfl rfl (by first | decide | omega)) rfl ?_ | refine RO.q0 rfl (QOk.strCmp rfl rfl rfl (by first | assumption | rfl)) rfl ?_ | refine RO.q0 rfl (QOk.boolEq rfl rfl) rfl ?_ | refine RO.q0 rfl (QOk.boolNe rfl rfl) rfl ?_ | refine RO.q0 rfl (QOk.sliceNil rfl rfl rfl) rfl ?_ | refine RO.q0 rfl (QOk.sliceNotNil rfl rfl rfl) rfl ?_ | refine RO.q0 rfl (QOk.eqIT rfl rfl rfl (by first | decide | assumption | (simp only [List.cons.injEq]; omega))) rfl ?_ | refine RO.q0 rfl (QOk.eqIF rfl rfl rfl (by first | decide | assumption | (simp only [List.cons.injEq]; omega))) rfl ?_ | refine RO.cmpS rfl rfl rfl rfl (fun h => ?_) (fun h => ?_)); all_goals refine RO.nil ?_) | (refine R.region (id := 2) ?_; all_goals (refine RO.q0 rfl (QOk.assign rfl) rfl ?_); all_goals refine RO.nil ?_))
    refine R.nilSl 3 1 ?_
    exact R.retK Try.func44 rfl (.tmp rfl .nil) (A := [sl 3 1 none 0 0 []]) (by repeat (first | exact Pick.nil | apply Pick.cons (by (repeat (first | exact .here | apply Take.there)); (first | done | fail)))) fun _ => ⟨rfl, _, _, rfl, rfl⟩
  | some a =>
    repeat' (first | refine R.seq ?_ | refine R.skip ?_ | refine R.inBlock ?_ | refine R.block ?_ | refine R.condT rfl ?_ | refine R.condF rfl ?_ | refine R.exit rfl ?_ | refine R.label ?_ | (refine R.region (id := 0) ?_; all_goals (refine RO.q0 rfl (QOk.assign rfl) rfl ?_); all_goals refine RO.nil ?_) | (refine R.region (id := 1) ?_; all_goals (refine RO.q0 rfl (QOk.move rfl) rfl ?_); all_goals (first | refine RO.q0 rfl (QOk.cmpT rfl rfl rfl (by first | decide | omega)) rfl ?_ | refine RO.q0 rfl (QOk.cmpF rfl rfl rfl (by first | decide | omega)) rfl ?_ | refine RO.q0 rfl (QOk.strCmp rfl rfl rfl (by first | assumption | rfl)) rfl ?_ | refine RO.q0 rfl (QOk.boolEq rfl rfl) rfl ?_ | refine RO.q0 rfl (QOk.boolNe rfl rfl) rfl ?_ | refine RO.q0 rfl (QOk.sliceNil rfl rfl rfl) rfl ?_ | refine RO.q0 rfl (QOk.sliceNotNil rfl rfl rfl) rfl ?_ | refine RO.q0 rfl (QOk.eqIT rfl rfl rfl (by first | decide | assumption | (simp only [List.cons.injEq]; omega))) rfl ?_ | refine RO.q0 rfl (QOk.eqIF rfl rfl rfl (by first | decide | assumption | (simp only [List.cons.injEq]; omega))) rfl ?_ | refine RO.cmpS rfl rfl rfl rfl (fun h => ?_) (fun h => ?_)); all_goals refine RO.nil ?_) | (refine R.region (id := 2) ?_; all_goals (refine RO.q0 rfl (QOk.assign rfl) rfl ?_); all_goals refine RO.nil ?_) | (refine R.region (id := 3) ?_; all_goals (refine RO.ef rfl (OpOk.buildSlice rfl rfl (fun b => ?_))); all_goals (refine RO.q0 rfl (QOk.move rfl) rfl ?_); all_goals (first | refine RO.ef rfl (OpOk.append1 rfl rfl rfl rfl (by omega) (by simp only [maxLen]; omega) (fun a cap => ?_)) | refine RO.ef rfl (OpOk.appendE rfl rfl (by assumption) (by assumption) rfl (by omega) (by simp only [maxLen]; omega) (fun a cap => ?_))); all_goals (refine RO.q0 rfl (QOk.assign rfl) rfl ?_); all_goals refine RO.nil ?_))
    exact R.retK Try.func44 rfl (.tmp rfl .nil) (A := [sl 3 1 _ n _ (ints l)]) (by repeat (first | exact Pick.nil | apply Pick.cons (by (repeat (first | exact .here | apply Take.there)); (first | done | fail)))) fun _ => ⟨rfl, _, _, rfl, rfl⟩
end Go.Proofs.Ytbdnfllpdlbboaa
