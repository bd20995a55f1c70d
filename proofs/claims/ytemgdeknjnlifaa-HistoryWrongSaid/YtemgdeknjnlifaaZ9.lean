import Derived.Test.YtemgdeknjnlifaaZ4
import Derived.Test.YtemgdeknjnlifaaZedW
import Derived.Test.YtemgdeknjnlifaaZedS
namespace Go.Proofs.Ytemgdeknjnlifaa
open Go Go.Zed
attribute [local irreducible] R RO RD OpOk QOk
set_option maxRecDepth 10000
set_option maxHeartbeats 4000000
theorem ints_len (l : List Int) : (ints l).length = l.length := by simp [ints]
theorem clone_ok (F : Frag) (g : Img) {a : Option Addr} {n cp : Nat} {l : List Int} (hl : Sl g 1 a n (ints l)) (hn : l.length ≤ 1000000) :
    Fc Try.prog 47 #[.slice a n cp] [] F g (fun v own' _ => ∃ a' c', v = .slice a' n c' ∧ own' = [sl 3 1 a' n c' (ints l)]) := by
  have hnl : n = l.length := by rw [hl.len, ints_len]
  refine Fc.of_body (args := [_]) Try.func47 rfl rfl ?_
  cases a with
  | none =>
    have h0 : l = [] := by
      cases l with
      | nil => rfl
      | cons x l => obtain ⟨b, off, h, _⟩ := hl.at_ 0 [.int .i64 x] rfl; cases h
    subst h0
    subst hnl
    repeat' (first | refine R.seq ?_ | refine R.skip ?_ | refine R.inBlock ?_ | refine R.block ?_ | refine R.condT rfl ?_ | refine R.condF rfl ?_ | refine R.exit rfl ?_ | refine R.label ?_ | (refine R.region (id := 0) ?_; all_goals (refine RO.q0 rfl (QOk.assign rfl) rfl ?_); all_goals refine RO.nil ?_) | (refine R.region (id := 1) ?_; all_goals (refine RO.q0 rfl (QOk.move rfl) rfl ?_); all_goals (first | refine RO.q0 rfl (QOk.cmpT rfl rfl rfl (by first | decide | omega)) rfl ?_ | refine RO.q0 rfl (QOk.cmpF rfl rfl rfl (by first | decide | omega)) rfl ?_ | refine RO.q0 rfl (QOk.strCmp rfl rfl rfl (by first | assumption | rfl)) rfl ?_ | refine RO.q0 rfl (QOk.boolEq rfl rfl) rfl ?_ | refine RO.q0 rfl (QOk.boolNe rfl rfl) rfl ?_ | refine RO.q0 rfl (QOk.sliceNil rfl rfl rfl) rfl ?_ | refine RO.q0 rfl (QOk.sliceNotNil rfl rfl rfl) rfl ?_ | refine RO.q0 rfl (QOk.eqIT rfl rfl rfl (by first | decide | assumption | (simp only [List.cons.injEq]; omega))) rfl ?_ | refine RO.q0 rfl (QOk.eqIF rfl rfl rfl (by first | decide | assumption | (simp only [List.cons.injEq]; omega))) rfl ?_ | refine RO.cmpS rfl rfl rfl rfl (fun h => ?_) (fun h => ?_)); all_goals refine RO.nil ?_) | (refine R.region (id := 2) ?_; all_goals (refine RO.q0 rfl (QOk.assign rfl) rfl ?_); all_goals refine RO.nil ?_) | (refine R.region (id := 3) ?_; all_goals (refine RO.ef rfl (OpOk.buildSlice rfl rfl (fun b => ?_))); all_goals (refine RO.q0 rfl (QOk.move rfl) rfl ?_); all_goals (first | refine RO.ef rfl (OpOk.append1 rfl rfl rfl rfl (by omega) (by simp only [maxLen]; omega) (fun a cap => ?_)) | refine RO.ef rfl (OpOk.appendE rfl rfl (by assumption) (by assumption) rfl (by omega) (by simp only [maxLen]; omega) (fun a cap => ?_))); all_goals (refine RO.q0 rfl (QOk.assign rfl) rfl ?_); all_goals refine RO.nil ?_))
    refine R.nilSl 3 1 ?_
    exact R.retK Try.func47 rfl (.tmp rfl .nil) (A := [sl 3 1 none 0 0 []]) (by repeat (first | exact Pick.nil | apply Pick.cons (by (repeat (first | exact .here | apply Take.there)); (first | done | fail)))) fun _ => ⟨none, 0, rfl, rfl⟩
  | some a =>
    have ho := ints_one (l := l)
    repeat' (first | refine R.seq ?_ | refine R.skip ?_ | refine R.inBlock ?_ | refine R.block ?_ | refine R.condT rfl ?_ | refine R.condF rfl ?_ | refine R.exit rfl ?_ | refine R.label ?_ | (refine R.region (id := 0) ?_; all_goals (refine RO.q0 rfl (QOk.assign rfl) rfl ?_); all_goals refine RO.nil ?_) | (refine R.region (id := 1) ?_; all_goals (refine RO.q0 rfl (QOk.move rfl) rfl ?_); all_goals (first | refine RO.q0 rfl (QOk.cmpT rfl rfl rfl (by first | decide | omega)) rfl ?_ | refine RO.q0 rfl (QOk.cmpF rfl rfl rfl (by first | decide | omega)) rfl ?_ | refine RO.q0 rfl (QOk.strCmp rfl rfl rfl (by first | assumption | rfl)) rfl ?_ | refine RO.q0 rfl (QOk.boolEq rfl rfl) rfl ?_ | refine RO.q0 rfl (QOk.boolNe rfl rfl) rfl ?_ | refine RO.q0 rfl (QOk.sliceNil rfl rfl rfl) rfl ?_ | refine RO.q0 rfl (QOk.sliceNotNil rfl rfl rfl) rfl ?_ | refine RO.q0 rfl (QOk.eqIT rfl rfl rfl (by first | decide | assumption | (simp only [List.cons.injEq]; omega))) rfl ?_ | refine RO.q0 rfl (QOk.eqIF rfl rfl rfl (by first | decide | assumption | (simp only [List.cons.injEq]; omega))) rfl ?_ | refine RO.cmpS rfl rfl rfl rfl (fun h => ?_) (fun h => ?_)); all_goals refine RO.nil ?_) | (refine R.region (id := 2) ?_; all_goals (refine RO.q0 rfl (QOk.assign rfl) rfl ?_); all_goals refine RO.nil ?_) | (refine R.region (id := 3) ?_; all_goals (refine RO.ef rfl (OpOk.buildSlice rfl rfl (fun b => ?_))); all_goals (refine RO.q0 rfl (QOk.move rfl) rfl ?_); all_goals (first | refine RO.ef rfl (OpOk.append1 rfl rfl rfl rfl (by omega) (by simp only [maxLen]; omega) (fun a cap => ?_)) | refine RO.ef rfl (OpOk.appendE rfl rfl (by assumption) (by assumption) rfl (by omega) (by simp only [maxLen]; omega) (fun a cap => ?_))); all_goals (refine RO.q0 rfl (QOk.assign rfl) rfl ?_); all_goals refine RO.nil ?_))
    exact R.retK Try.func47 rfl (.tmp rfl .nil) (A := [sl 3 1 _ _ _ _]) (by repeat (first | exact Pick.nil | apply Pick.cons (by (repeat (first | exact .here | apply Take.there)); (first | done | fail)))) fun _ => ⟨_, _, rfl, rfl⟩
theorem cellsE_one {es : List En} : ∀ u ∈ (es.map En.cells).flatten, u.oneCell' = true := by
  intro u hu
  simp only [List.mem_flatten, List.mem_map] at hu
  obtain ⟨x, ⟨e, _, rfl⟩, hu⟩ := hu
  simp at hu
  rcases hu with rfl | rfl | rfl | rfl <;> rfl
theorem cloneE_ok (F : Frag) (g : Img) {a : Option Addr} {n cp : Nat} {es : List En} (hl : Sl g 4 a n (es.map En.cells)) (hn : es.length ≤ 1000000) :
    Fc Try.prog 41 #[.slice a n cp] [] F g (fun v own' _ => ∃ a' c', v = .slice a' n c' ∧ own' = [sl 45 4 a' n c' (es.map En.cells)]) := by
  have hnl : n = es.length := by rw [hl.len, List.length_map]
  refine Fc.of_body (args := [_]) Try.func41 rfl rfl ?_
  cases a with
  | none =>
    have h0 : es = [] := by
      cases es with
      | nil => rfl
      | cons x l => obtain ⟨b, off, h, _⟩ := hl.at_ 0 x.cells rfl; cases h
    subst h0
    subst hnl
    repeat' (first | refine R.seq ?_ | refine R.skip ?_ | refine R.inBlock ?_ | refine R.block ?_ | refine R.condT rfl ?_ | refine R.condF rfl ?_ | refine R.exit rfl ?_ | refine R.label ?_ | (refine R.region (id := 0) ?_; all_goals (refine RO.q0 rfl (QOk.assign rfl) rfl ?_); all_goals refine RO.nil ?_) | (refine R.region (id := 1) ?_; all_goals (refine RO.q0 rfl (QOk.move rfl) rfl ?_); all_goals (first | refine RO.q0 rfl (QOk.cmpT rfl rfl rfl (by first | decide | omega)) rfl ?_ | refine RO.q0 rfl (QOk.cmpF rfl rfl rfl (by first | decide | omega)) rfl ?_ | refine RO.q0 rfl (QOk.strCmp rfl rfl rfl (by first | assumption | rfl)) rfl ?_ | refine RO.q0 rfl (QOk.boolEq rfl rfl) rfl ?_ | refine RO.q0 rfl (QOk.boolNe rfl rfl) rfl ?_ | refine RO.q0 rfl (QOk.sliceNil rfl rfl rfl) rfl ?_ | refine RO.q0 rfl (QOk.sliceNotNil rfl rfl rfl) rfl ?_ | refine RO.q0 rfl (QOk.eqIT rfl rfl rfl (by first | decide | assumption | (simp only [List.cons.injEq]; omega))) rfl ?_ | refine RO.q0 rfl (QOk.eqIF rfl rfl rfl (by first | decide | assumption | (simp only [List.cons.injEq]; omega))) rfl ?_ | refine RO.cmpS rfl rfl rfl rfl (fun h => ?_) (fun h => ?_)); all_goals refine RO.nil ?_) | (refine R.region (id := 2) ?_; all_goals (refine RO.q0 rfl (QOk.assign rfl) rfl ?_); all_goals refine RO.nil ?_) | (refine R.region (id := 3) ?_; all_goals (refine RO.ef rfl (OpOk.buildSlice rfl rfl (fun b => ?_))); all_goals (refine RO.q0 rfl (QOk.move rfl) rfl ?_); all_goals (first | refine RO.ef rfl (OpOk.append1 rfl rfl rfl rfl (by omega) (by simp only [maxLen]; omega) (fun a cap => ?_)) | refine RO.ef rfl (OpOk.appendE rfl rfl (by assumption) (by assumption) rfl (by omega) (by simp only [maxLen]; omega) (fun a cap => ?_))); all_goals (refine RO.q0 rfl (QOk.assign rfl) rfl ?_); all_goals refine RO.nil ?_))
    refine R.nilSl 45 4 ?_
    exact R.retK Try.func41 rfl (.tmp rfl .nil) (A := [sl 45 4 none 0 0 []]) (by repeat (first | exact Pick.nil | apply Pick.cons (by (repeat (first | exact .here | apply Take.there)); (first | done | fail)))) fun _ => ⟨none, 0, rfl, rfl⟩
  | some a =>
    have ho := cellsE_one (es := es)
    repeat' (first | refine R.seq ?_ | refine R.skip ?_ | refine R.inBlock ?_ | refine R.block ?_ | refine R.condT rfl ?_ | refine R.condF rfl ?_ | refine R.exit rfl ?_ | refine R.label ?_ | (refine R.region (id := 0) ?_; all_goals (refine RO.q0 rfl (QOk.assign rfl) rfl ?_); all_goals refine RO.nil ?_) | (refine R.region (id := 1) ?_; all_goals (refine RO.q0 rfl (QOk.move rfl) rfl ?_); all_goals (first | refine RO.q0 rfl (QOk.cmpT rfl rfl rfl (by first | decide | omega)) rfl ?_ | refine RO.q0 rfl (QOk.cmpF rfl rfl rfl (by first | decide | omega)) rfl ?_ | refine RO.q0 rfl (QOk.strCmp rfl rfl rfl (by first | assumption | rfl)) rfl ?_ | refine RO.q0 rfl (QOk.boolEq rfl rfl) rfl ?_ | refine RO.q0 rfl (QOk.boolNe rfl rfl) rfl ?_ | refine RO.q0 rfl (QOk.sliceNil rfl rfl rfl) rfl ?_ | refine RO.q0 rfl (QOk.sliceNotNil rfl rfl rfl) rfl ?_ | refine RO.q0 rfl (QOk.eqIT rfl rfl rfl (by first | decide | assumption | (simp only [List.cons.injEq]; omega))) rfl ?_ | refine RO.q0 rfl (QOk.eqIF rfl rfl rfl (by first | decide | assumption | (simp only [List.cons.injEq]; omega))) rfl ?_ | refine RO.cmpS rfl rfl rfl rfl (fun h => ?_) (fun h => ?_)); all_goals refine RO.nil ?_) | (refine R.region (id := 2) ?_; all_goals (refine RO.q0 rfl (QOk.assign rfl) rfl ?_); all_goals refine RO.nil ?_) | (refine R.region (id := 3) ?_; all_goals (refine RO.ef rfl (OpOk.buildSlice rfl rfl (fun b => ?_))); all_goals (refine RO.q0 rfl (QOk.move rfl) rfl ?_); all_goals (first | refine RO.ef rfl (OpOk.append1 rfl rfl rfl rfl (by omega) (by simp only [maxLen]; omega) (fun a cap => ?_)) | refine RO.ef rfl (OpOk.appendE rfl rfl (by assumption) (by assumption) rfl (by omega) (by simp only [maxLen]; omega) (fun a cap => ?_))); all_goals (refine RO.q0 rfl (QOk.assign rfl) rfl ?_); all_goals refine RO.nil ?_))
    exact R.retK Try.func41 rfl (.tmp rfl .nil) (A := [sl 45 4 _ _ _ _]) (by repeat (first | exact Pick.nil | apply Pick.cons (by (repeat (first | exact .here | apply Take.there)); (first | done | fail)))) fun _ => ⟨_, _, rfl, rfl⟩
end Go.Proofs.Ytemgdeknjnlifaa
