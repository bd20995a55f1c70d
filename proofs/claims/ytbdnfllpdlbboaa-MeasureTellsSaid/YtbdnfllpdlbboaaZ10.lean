import Derived.Test.YtbdnfllpdlbboaaZ9
namespace Go.Proofs.Ytbdnfllpdlbboaa
open Go Go.Zed
attribute [local irreducible] R RO RD OpOk QOk
set_option maxRecDepth 10000
set_option maxHeartbeats 4000000
/-! ### Holes, counted -/
mutual
def cntH : PT → Int
  | .mk h sub => (if isQ h.r then 1 else 0) + cntHL sub
def cntHL : List PT → Int
  | [] => 0
  | t :: ts => cntH t + cntHL ts
end
mutual
theorem cntH_b : ∀ t, 0 ≤ cntH t ∧ cntH t ≤ nodes t
  | .mk h sub => by
    have := cntHL_b sub
    rw [cntH, nodes]
    split <;> omega
theorem cntHL_b : ∀ l, 0 ≤ cntHL l ∧ cntHL l ≤ nodesL l
  | [] => by simp [cntHL, nodesL]
  | t :: ts => by
    have h1 := cntH_b t
    have h2 := cntHL_b ts
    rw [cntHL, nodesL]; omega
end
theorem cntHL_append : ∀ (a b : List PT), cntHL (a ++ b) = cntHL a + cntHL b
  | [], b => by simp [cntHL]
  | t :: a, b => by rw [List.cons_append, cntHL, cntHL, cntHL_append a b]; omega
def CountOk (t : PT) : Prop := ∀ (F : Frag) (g : Img), Rep g t → nodes t ≤ 1000000 → Fc Try.prog 12 #[.agg t.h.cells.toArray] [] F g (fun v own' g' => own' = [] ∧ g' = g ∧ v = .int .i64 (cntH t))
theorem count_step (hd : PH) (sub : List PT) (IH : ∀ q ∈ sub, CountOk q) : CountOk (.mk hd sub) := by
  intro F g hr hnd
  obtain ⟨hsl, hmax, hqs⟩ := hr
  have hsn : hd.sl.n = sub.length := by simpa using hsl.len
  have hcb := cntHL_b sub
  rw [nodes] at hnd
  refine Fc.of_body (args := [_]) Try.func12 rfl rfl ?_
  obtain ⟨q0, hq0, hcnt, hb1, hb0⟩ : ∃ q0 : Int, (q0 = 0 ∨ q0 = 1) ∧ cntH (.mk hd sub) = q0 + cntHL sub ∧ (isQ hd.r = true → q0 = 1) ∧ (isQ hd.r = false → q0 = 0) := by
    refine ⟨if isQ hd.r then 1 else 0, ?_, by rw [cntH], fun h => by rw [h]; rfl, fun h => by rw [h]; rfl⟩
    split <;> simp
  repeat' (first | refine R.seq ?_ | refine R.skip ?_ | refine R.inBlock ?_ | refine R.block ?_ | refine R.condT rfl ?_ | refine R.condF rfl ?_ | refine R.exit rfl ?_ | refine R.label ?_ | (refine R.region (id := 0) ?_; all_goals (refine RO.ef rfl (OpOk.box rfl (fun b => ?_))); all_goals (refine RO.q0 rfl (QOk.assign rfl) rfl ?_); all_goals refine RO.nil ?_) | (refine R.region (id := 1) ?_; all_goals (refine RO.q0 rfl (QOk.assign rfl) rfl ?_); all_goals refine RO.nil ?_))
  cases hq : isQ hd.r
  all_goals
    first | (have hq0' := hb1 hq; subst hq0') | (have hq0' := hb0 hq; subst hq0')
    repeat' (first | refine R.seq ?_ | refine R.skip ?_ | refine R.inBlock ?_ | refine R.block ?_ | refine R.condT rfl ?_ | refine R.condF rfl ?_ | refine R.exit rfl ?_ | refine R.label ?_ | (refine R.region (id := 2) ?_; all_goals (first | refine RO.q0 rfl (QOk.fieldAddr0 rfl rfl) rfl ?_ | refine RO.q0 rfl (QOk.fieldAddrZ rfl rfl) rfl ?_ | refine RO.q0 rfl (QOk.fieldAddr rfl rfl) rfl ?_); all_goals (first | refine RO.ld rfl rfl ?_ | refine RO.ldA rfl rfl ?_ | refine RO.ldL rfl rfl (by assumption) ?_ | refine RO.ldLA rfl rfl (by assumption) (by first | rfl | assumption) ?_ | refine RO.ldLW rfl rfl (by assumption) ?_ | refine RO.q0 rfl (QOk.ldM rfl (by assumption)) rfl ?_ | refine RO.q0 rfl (QOk.ldMA rfl (by assumption) (by first | rfl | assumption)) rfl ?_ | refine RO.q0 rfl (QOk.ldMW rfl (by assumption)) rfl ?_ | refine RO.q0 rfl (QOk.ldMWA rfl (by assumption)) rfl ?_ | refine RO.q0 rfl (QOk.ldM0 rfl (by assumption)) rfl ?_ | refine RO.q0 rfl (QOk.ldM0A rfl (by assumption)) rfl ?_ | refine RO.q0 rfl (QOk.loadMem0 rfl (by assumption)) rfl ?_); all_goals (first | refine RO.q0 rfl (QOk.cmpT rfl rfl rfl (by first | decide | omega)) rfl ?_ | refine RO.q0 rfl (QOk.cmpF rfl rfl rfl (by first | decide | omega)) rfl ?_ | refine RO.q0 rfl (QOk.strCmp rfl rfl rfl (by first | assumption | rfl)) rfl ?_ | refine RO.q0 rfl (QOk.boolEq rfl rfl) rfl ?_ | refine RO.q0 rfl (QOk.boolNe rfl rfl) rfl ?_ | refine RO.q0 rfl (QOk.sliceNil rfl rfl rfl) rfl ?_ | refine RO.q0 rfl (QOk.sliceNotNil rfl rfl rfl) rfl ?_ | refine RO.q0 rfl (QOk.eqIT rfl rfl rfl (by first | decide | assumption | (simp only [List.cons.injEq]; omega))) rfl ?_ | refine RO.q0 rfl (QOk.eqIF rfl rfl rfl (by first | decide | assumption | (simp only [List.cons.injEq]; omega))) rfl ?_ | refine RO.cmpS rfl rfl rfl rfl (fun h => ?_) (fun h => ?_)); all_goals refine RO.nil ?_) | (refine R.region (id := 3) ?_; all_goals (refine RO.q0 rfl (QOk.assign rfl) rfl ?_); all_goals refine RO.nil ?_) | (refine R.region (id := 4) ?_; all_goals (first | refine RO.q0 rfl (QOk.fieldAddr0 rfl rfl) rfl ?_ | refine RO.q0 rfl (QOk.fieldAddrZ rfl rfl) rfl ?_ | refine RO.q0 rfl (QOk.fieldAddr rfl rfl) rfl ?_); all_goals (first | refine RO.ld rfl rfl ?_ | refine RO.ldA rfl rfl ?_ | refine RO.ldL rfl rfl (by assumption) ?_ | refine RO.ldLA rfl rfl (by assumption) (by first | rfl | assumption) ?_ | refine RO.ldLW rfl rfl (by assumption) ?_ | refine RO.q0 rfl (QOk.ldM rfl (by assumption)) rfl ?_ | refine RO.q0 rfl (QOk.ldMA rfl (by assumption) (by first | rfl | assumption)) rfl ?_ | refine RO.q0 rfl (QOk.ldMW rfl (by assumption)) rfl ?_ | refine RO.q0 rfl (QOk.ldMWA rfl (by assumption)) rfl ?_ | refine RO.q0 rfl (QOk.ldM0 rfl (by assumption)) rfl ?_ | refine RO.q0 rfl (QOk.ldM0A rfl (by assumption)) rfl ?_ | refine RO.q0 rfl (QOk.loadMem0 rfl (by assumption)) rfl ?_); all_goals (first | refine RO.q0 rfl (QOk.lenSlice rfl) rfl ?_ | refine RO.q0 rfl (QOk.lenStr rfl) rfl ?_ | refine RO.q0 rfl (QOk.lenArr rfl) rfl ?_); all_goals (refine RO.q0 rfl (QOk.move rfl) rfl ?_); all_goals refine RO.nil ?_))
    refine R.pick (A := []) .nil ?_
    refine R.sub (e' := [(12, .int .i64 0), (11, .int .i64 _), (10, .slice _ _ _), (3, .int .i64 _)]) (by repeat (first | exact Sub.nil | refine Sub.cons rfl ?_)) ?_
    refine R.loop (fun k e own g' => g' = g ∧ ∃ (i : Nat) (iv z : Int), iv = i ∧ i + k = sub.length ∧ z + cntHL (sub.drop i) = cntH (.mk hd sub) ∧ 0 ≤ z ∧ own = [] ∧
      e = [(12, .int .i64 iv), (11, .int .i64 hd.sl.n), (10, .slice hd.sl.a hd.sl.n hd.sl.cap), (3, .int .i64 z)]) ?_ sub.length ⟨rfl, 0, 0, _, rfl, by omega, by rw [hcnt]; rfl, by omega, rfl, rfl⟩
    rintro k e own g' ⟨rfl, i, _, z, rfl, hik, hz, hz0, rfl, rfl⟩ ih
    rcases Nat.eq_zero_or_pos k with rfl | hk
    · have hil : sub.drop i = [] := by rw [List.drop_eq_nil_iff]; omega
      rw [hil, cntHL] at hz
      repeat' (first | refine R.seq ?_ | refine R.skip ?_ | refine R.inBlock ?_ | refine R.block ?_ | refine R.condT rfl ?_ | refine R.condF rfl ?_ | refine R.exit rfl ?_ | refine R.label ?_ | (refine R.region (id := 5) ?_; all_goals (first | refine RO.q0 rfl (QOk.cmpT rfl rfl rfl (by first | decide | omega)) rfl ?_ | refine RO.q0 rfl (QOk.cmpF rfl rfl rfl (by first | decide | omega)) rfl ?_ | refine RO.q0 rfl (QOk.strCmp rfl rfl rfl (by first | assumption | rfl)) rfl ?_ | refine RO.q0 rfl (QOk.boolEq rfl rfl) rfl ?_ | refine RO.q0 rfl (QOk.boolNe rfl rfl) rfl ?_ | refine RO.q0 rfl (QOk.sliceNil rfl rfl rfl) rfl ?_ | refine RO.q0 rfl (QOk.sliceNotNil rfl rfl rfl) rfl ?_ | refine RO.q0 rfl (QOk.eqIT rfl rfl rfl (by first | decide | assumption | (simp only [List.cons.injEq]; omega))) rfl ?_ | refine RO.q0 rfl (QOk.eqIF rfl rfl rfl (by first | decide | assumption | (simp only [List.cons.injEq]; omega))) rfl ?_ | refine RO.cmpS rfl rfl rfl rfl (fun h => ?_) (fun h => ?_)); all_goals refine RO.nil ?_) | (refine R.region (id := 9) ?_; all_goals (refine RO.q0 rfl (QOk.move rfl) rfl ?_); all_goals (refine RO.q0 rfl (QOk.assign rfl) rfl ?_); all_goals refine RO.nil ?_))
      exact R.ret0 Try.func12 rfl (.tmp rfl .nil) fun _ => ⟨rfl, rfl, by rw [← hz, Int.add_zero]; rfl⟩
    · have hil : i < sub.length := by omega
      have hdrop : sub.drop i = sub[i] :: sub.drop (i + 1) := List.drop_eq_getElem_cons hil
      rw [hdrop, cntHL] at hz
      obtain ⟨b3, o3, hsa, hm3⟩ := hsl.at_ i sub[i].h.cells (by simp [hil])
      have hrq := hqs _ (List.getElem_mem hil)
      have hnq : nodes sub[i] ≤ nodesL sub := by
        have := nodesL_append (sub.take i) (sub.drop i)
        rw [List.take_append_drop, hdrop, nodesL] at this
        omega
      have hb3 := cntHL_b (sub.drop (i + 1))
      have hb4 := cntH_b sub[i]
      have hIH := fun F => IH _ (List.getElem_mem hil) F g' hrq (by omega)
      rw [hsa]
      generalize sub[i] = q at *
      repeat' (first | refine R.seq ?_ | refine R.skip ?_ | refine R.inBlock ?_ | refine R.block ?_ | refine R.condT rfl ?_ | refine R.condF rfl ?_ | refine R.exit rfl ?_ | refine R.label ?_ | (refine R.region (id := 5) ?_; all_goals (first | refine RO.q0 rfl (QOk.cmpT rfl rfl rfl (by first | decide | omega)) rfl ?_ | refine RO.q0 rfl (QOk.cmpF rfl rfl rfl (by first | decide | omega)) rfl ?_ | refine RO.q0 rfl (QOk.strCmp rfl rfl rfl (by first | assumption | rfl)) rfl ?_ | refine RO.q0 rfl (QOk.boolEq rfl rfl) rfl ?_ | refine RO.q0 rfl (QOk.boolNe rfl rfl) rfl ?_ | refine RO.q0 rfl (QOk.sliceNil rfl rfl rfl) rfl ?_ | refine RO.q0 rfl (QOk.sliceNotNil rfl rfl rfl) rfl ?_ | refine RO.q0 rfl (QOk.eqIT rfl rfl rfl (by first | decide | assumption | (simp only [List.cons.injEq]; omega))) rfl ?_ | refine RO.q0 rfl (QOk.eqIF rfl rfl rfl (by first | decide | assumption | (simp only [List.cons.injEq]; omega))) rfl ?_ | refine RO.cmpS rfl rfl rfl rfl (fun h => ?_) (fun h => ?_)); all_goals refine RO.nil ?_) | (refine R.region (id := 6) ?_; all_goals (first | refine RO.q0 rfl (QOk.indexAddrC rfl rfl rfl) rfl ?_ | refine RO.q0 rfl (QOk.indexAddrAC rfl rfl rfl) rfl ?_ | refine RO.q0 rfl (QOk.indexAddr rfl rfl (by omega)) rfl ?_ | refine RO.q0 rfl (QOk.indexAddrA rfl rfl (by omega)) rfl ?_); all_goals (first | refine RO.ld rfl rfl ?_ | refine RO.ldA rfl rfl ?_ | refine RO.ldL rfl rfl (by assumption) ?_ | refine RO.ldLA rfl rfl (by assumption) (by first | rfl | assumption) ?_ | refine RO.ldLW rfl rfl (by assumption) ?_ | refine RO.q0 rfl (QOk.ldM rfl (by assumption)) rfl ?_ | refine RO.q0 rfl (QOk.ldMA rfl (by assumption) (by first | rfl | assumption)) rfl ?_ | refine RO.q0 rfl (QOk.ldMW rfl (by assumption)) rfl ?_ | refine RO.q0 rfl (QOk.ldMWA rfl (by assumption)) rfl ?_ | refine RO.q0 rfl (QOk.ldM0 rfl (by assumption)) rfl ?_ | refine RO.q0 rfl (QOk.ldM0A rfl (by assumption)) rfl ?_ | refine RO.q0 rfl (QOk.loadMem0 rfl (by assumption)) rfl ?_); all_goals (refine RO.ef rfl (OpOk.alloc (fun b => ?_))); all_goals (first | refine RO.ef0 (OpOk.store rfl rfl rfl ?_) | refine RO.ef0 (OpOk.storeL rfl rfl rfl (by assumption) ?_)); all_goals refine RO.nil ?_) | (refine R.region (id := 7) ?_; all_goals (refine RO.q0 rfl (QOk.move rfl) rfl ?_); all_goals (first | refine RO.ld rfl rfl ?_ | refine RO.ldA rfl rfl ?_ | refine RO.ldL rfl rfl (by assumption) ?_ | refine RO.ldLA rfl rfl (by assumption) (by first | rfl | assumption) ?_ | refine RO.ldLW rfl rfl (by assumption) ?_ | refine RO.q0 rfl (QOk.ldM rfl (by assumption)) rfl ?_ | refine RO.q0 rfl (QOk.ldMA rfl (by assumption) (by first | rfl | assumption)) rfl ?_ | refine RO.q0 rfl (QOk.ldMW rfl (by assumption)) rfl ?_ | refine RO.q0 rfl (QOk.ldMWA rfl (by assumption)) rfl ?_ | refine RO.q0 rfl (QOk.ldM0 rfl (by assumption)) rfl ?_ | refine RO.q0 rfl (QOk.ldM0A rfl (by assumption)) rfl ?_ | refine RO.q0 rfl (QOk.loadMem0 rfl (by assumption)) rfl ?_); all_goals (refine RO.ef rfl (OpOk.pure rfl rfl (fun F => hIH F) ?_)); all_goals (first | refine RO.q0 rfl (QOk.arith rfl rfl rfl (w64 (by omega))) rfl ?_ | refine RO.q0 rfl (QOk.arith rfl rfl rfl (wu8 (by omega))) rfl ?_ | refine RO.q0 rfl (QOk.arith rfl rfl rfl (wu16 (by omega))) rfl ?_ | refine RO.q0 rfl (QOk.arith rfl rfl rfl (wu32 (by omega))) rfl ?_ | refine RO.q0 rfl (QOk.arith rfl rfl rfl (wu64 (by omega))) rfl ?_ | refine RO.q0 rfl (QOk.strAdd rfl rfl) rfl ?_); all_goals (refine RO.q0 rfl (QOk.assign rfl) rfl ?_); all_goals refine RO.nil ?_) | (refine R.region (id := 8) ?_; all_goals (first | refine RO.q0 rfl (QOk.arith rfl rfl rfl (w64 (by omega))) rfl ?_ | refine RO.q0 rfl (QOk.arith rfl rfl rfl (wu8 (by omega))) rfl ?_ | refine RO.q0 rfl (QOk.arith rfl rfl rfl (wu16 (by omega))) rfl ?_ | refine RO.q0 rfl (QOk.arith rfl rfl rfl (wu32 (by omega))) rfl ?_ | refine RO.q0 rfl (QOk.arith rfl rfl rfl (wu64 (by omega))) rfl ?_ | refine RO.q0 rfl (QOk.strAdd rfl rfl) rfl ?_); all_goals (refine RO.q0 rfl (QOk.move rfl) rfl ?_); all_goals refine RO.nil ?_))
      refine R.pick (A := []) .nil ?_
      refine R.sub (e' := [(12, .int .i64 _), (11, .int .i64 _), (10, .slice _ _ _), (3, .int .i64 _)]) (by repeat (first | exact Sub.nil | refine Sub.cons rfl ?_)) ?_
      refine ih (k - 1) _ _ _ (by omega) ⟨rfl, i + 1, (i : Int) + 1, _, by omega, by omega, ?_, ?_, rfl, by rw [hsa]⟩
      · rw [← hz]; omega
      · omega
theorem count_ok : ∀ t, CountOk t
  | .mk hd sub => count_step hd sub fun q _ => count_ok q
/-! ### The order of places -/
def lessP : List Int → List Int → Bool
  | [], [] => false
  | [], _ :: _ => true
  | _ :: _, [] => false
  | a :: l, b :: m => if a = b then lessP l m else decide (a < b)
theorem lessP_append : ∀ (p a b : List Int), lessP (p ++ a) (p ++ b) = lessP a b
  | [], _, _ => rfl
  | x :: p, a, b => by rw [List.cons_append, List.cons_append, lessP, if_pos rfl, lessP_append p a b]
theorem lessP_take : ∀ {l m : List Int} {i : Nat}, l.take i = m.take i → lessP l m = lessP (l.drop i) (m.drop i)
  | l, m, 0, _ => by simp
  | [], [], i + 1, _ => by simp
  | [], b :: m, i + 1, h => by simp at h
  | a :: l, [], i + 1, h => by simp at h
  | a :: l, b :: m, i + 1, h => by
    simp only [List.take_succ_cons, List.cons.injEq] at h
    obtain ⟨rfl, h⟩ := h
    rw [lessP, if_pos rfl, List.drop_succ_cons, List.drop_succ_cons, lessP_take h]
theorem less_ok (F : Frag) (g : Img) {a a' : Option Addr} {n n' cap cap' : Nat} {l l' : List Int} (hx : Sl g 1 a n (ints l)) (hy : Sl g 1 a' n' (ints l')) (hn : l.length ≤ 1000000000000) (hn' : l'.length ≤ 1000000000000) :
    Fc Try.prog 13 #[.slice a n cap, .slice a' n' cap'] [] F g (fun v own' g' => own' = [] ∧ g' = g ∧ v = .bool (lessP l l')) := by
  have hnl : n = l.length := by simpa using hx.len
  have hnl' : n' = l'.length := by simpa using hy.len
  refine Fc.of_body (args := [_, _]) Try.func13 rfl rfl ?_
  repeat' (first | refine R.seq ?_ | refine R.skip ?_ | refine R.inBlock ?_ | refine R.block ?_ | refine R.condT rfl ?_ | refine R.condF rfl ?_ | refine R.exit rfl ?_ | refine R.label ?_ | (refine R.region (id := 0) ?_; all_goals (refine RO.q0 rfl (QOk.assign rfl) rfl ?_); all_goals refine RO.nil ?_) | (refine R.region (id := 1) ?_; all_goals (refine RO.q0 rfl (QOk.move rfl) rfl ?_); all_goals (first | refine RO.q0 rfl (QOk.lenSlice rfl) rfl ?_ | refine RO.q0 rfl (QOk.lenStr rfl) rfl ?_ | refine RO.q0 rfl (QOk.lenArr rfl) rfl ?_); all_goals (refine RO.q0 rfl (QOk.move rfl) rfl ?_); all_goals (first | refine RO.q0 rfl (QOk.lenSlice rfl) rfl ?_ | refine RO.q0 rfl (QOk.lenStr rfl) rfl ?_ | refine RO.q0 rfl (QOk.lenArr rfl) rfl ?_); all_goals (refine RO.q0 rfl (QOk.min2 rfl rfl) rfl ?_); all_goals (refine RO.q0 rfl (QOk.move rfl) rfl ?_); all_goals refine RO.nil ?_))
  have hmin : min (n : Int) n' = ((min n n' : Nat) : Int) := by omega
  rw [hmin]
  have hm1 : min n n' ≤ n := Nat.min_le_left _ _
  have hm2 : min n n' ≤ n' := Nat.min_le_right _ _
  have hm3 : min n n' = n ∨ min n n' = n' := by omega
  generalize min n n' = m at *
  refine R.sub (e' := [(11, .int .i64 0), (10, .int .i64 m), (0, .slice a n cap), (1, .slice a' n' cap')]) (by repeat (first | exact Sub.nil | refine Sub.cons rfl ?_)) ?_
  refine R.loop (fun k e own g' => g' = g ∧ ∃ (i : Nat) (iv : Int), iv = i ∧ i + k = m ∧ l.take i = l'.take i ∧ own = [] ∧ e = [(11, .int .i64 iv), (10, .int .i64 m), (0, .slice a n cap), (1, .slice a' n' cap')]) ?_ m ⟨rfl, 0, 0, rfl, by omega, rfl, rfl, rfl⟩
  rintro k e own g' ⟨rfl, i, _, rfl, hik, htk, rfl, rfl⟩ ih
  rcases Nat.eq_zero_or_pos k with rfl | hk
  · have hi : i = m := by omega
    have hless := lessP_take htk
    repeat' (first | refine R.seq ?_ | refine R.skip ?_ | refine R.inBlock ?_ | refine R.block ?_ | refine R.condT rfl ?_ | refine R.condF rfl ?_ | refine R.exit rfl ?_ | refine R.label ?_ | (refine R.region (id := 2) ?_; all_goals (first | refine RO.q0 rfl (QOk.cmpT rfl rfl rfl (by first | decide | omega)) rfl ?_ | refine RO.q0 rfl (QOk.cmpF rfl rfl rfl (by first | decide | omega)) rfl ?_ | refine RO.q0 rfl (QOk.strCmp rfl rfl rfl (by first | assumption | rfl)) rfl ?_ | refine RO.q0 rfl (QOk.boolEq rfl rfl) rfl ?_ | refine RO.q0 rfl (QOk.boolNe rfl rfl) rfl ?_ | refine RO.q0 rfl (QOk.sliceNil rfl rfl rfl) rfl ?_ | refine RO.q0 rfl (QOk.sliceNotNil rfl rfl rfl) rfl ?_ | refine RO.q0 rfl (QOk.eqIT rfl rfl rfl (by first | decide | assumption | (simp only [List.cons.injEq]; omega))) rfl ?_ | refine RO.q0 rfl (QOk.eqIF rfl rfl rfl (by first | decide | assumption | (simp only [List.cons.injEq]; omega))) rfl ?_ | refine RO.cmpS rfl rfl rfl rfl (fun h => ?_) (fun h => ?_)); all_goals refine RO.nil ?_) | (refine R.region (id := 7) ?_; all_goals (refine RO.q0 rfl (QOk.move rfl) rfl ?_); all_goals (first | refine RO.q0 rfl (QOk.lenSlice rfl) rfl ?_ | refine RO.q0 rfl (QOk.lenStr rfl) rfl ?_ | refine RO.q0 rfl (QOk.lenArr rfl) rfl ?_); all_goals (refine RO.q0 rfl (QOk.move rfl) rfl ?_); all_goals (first | refine RO.q0 rfl (QOk.lenSlice rfl) rfl ?_ | refine RO.q0 rfl (QOk.lenStr rfl) rfl ?_ | refine RO.q0 rfl (QOk.lenArr rfl) rfl ?_); all_goals (first | refine RO.q0 rfl (QOk.cmpT rfl rfl rfl (by first | decide | omega)) rfl ?_ | refine RO.q0 rfl (QOk.cmpF rfl rfl rfl (by first | decide | omega)) rfl ?_ | refine RO.q0 rfl (QOk.strCmp rfl rfl rfl (by first | assumption | rfl)) rfl ?_ | refine RO.q0 rfl (QOk.boolEq rfl rfl) rfl ?_ | refine RO.q0 rfl (QOk.boolNe rfl rfl) rfl ?_ | refine RO.q0 rfl (QOk.sliceNil rfl rfl rfl) rfl ?_ | refine RO.q0 rfl (QOk.sliceNotNil rfl rfl rfl) rfl ?_ | refine RO.q0 rfl (QOk.eqIT rfl rfl rfl (by first | decide | assumption | (simp only [List.cons.injEq]; omega))) rfl ?_ | refine RO.q0 rfl (QOk.eqIF rfl rfl rfl (by first | decide | assumption | (simp only [List.cons.injEq]; omega))) rfl ?_ | refine RO.cmpS rfl rfl rfl rfl (fun h => ?_) (fun h => ?_)); all_goals (refine RO.q0 rfl (QOk.assign rfl) rfl ?_); all_goals refine RO.nil ?_))
    · refine R.ret0 Try.func13 rfl (.tmp rfl .nil) fun _ => ⟨rfl, rfl, ?_⟩
      have hl0 : l.drop i = [] := by rw [List.drop_eq_nil_iff]; omega
      obtain ⟨b, m', hb⟩ : ∃ b m', l'.drop i = b :: m' := ⟨_, _, List.drop_eq_getElem_cons (show i < l'.length by omega)⟩
      rw [hless, hl0, hb]; rfl
    · refine R.ret0 Try.func13 rfl (.tmp rfl .nil) fun _ => ⟨rfl, rfl, ?_⟩
      have hl0 : l'.drop i = [] := by rw [List.drop_eq_nil_iff]; omega
      rw [hless, hl0]
      cases l.drop i <;> rfl
  · have hil : i < l.length := by omega
    have hil' : i < l'.length := by omega
    have hless := lessP_take htk
    rw [List.drop_eq_getElem_cons hil, List.drop_eq_getElem_cons hil', lessP] at hless
    have htk' : l[i] = l'[i] → l.take (i + 1) = l'.take (i + 1) := fun h => by rw [List.take_succ_eq_append_getElem hil, List.take_succ_eq_append_getElem hil', htk, h]
    obtain ⟨b1, o1, rfl, hm1'⟩ := hx.at_ i [.int .i64 l[i]] (by simp [ints, hil])
    obtain ⟨b2, o2, rfl, hm2'⟩ := hy.at_ i [.int .i64 l'[i]] (by simp [ints, hil'])
    generalize l[i] = x at *
    generalize l'[i] = y at *
    rcases Int.lt_trichotomy x y with hxy | hxy | hxy
    · rw [if_neg (by omega), decide_eq_true hxy] at hless
      repeat' (first | refine R.seq ?_ | refine R.skip ?_ | refine R.inBlock ?_ | refine R.block ?_ | refine R.condT rfl ?_ | refine R.condF rfl ?_ | refine R.exit rfl ?_ | refine R.label ?_ | (refine R.region (id := 2) ?_; all_goals (first | refine RO.q0 rfl (QOk.cmpT rfl rfl rfl (by first | decide | omega)) rfl ?_ | refine RO.q0 rfl (QOk.cmpF rfl rfl rfl (by first | decide | omega)) rfl ?_ | refine RO.q0 rfl (QOk.strCmp rfl rfl rfl (by first | assumption | rfl)) rfl ?_ | refine RO.q0 rfl (QOk.boolEq rfl rfl) rfl ?_ | refine RO.q0 rfl (QOk.boolNe rfl rfl) rfl ?_ | refine RO.q0 rfl (QOk.sliceNil rfl rfl rfl) rfl ?_ | refine RO.q0 rfl (QOk.sliceNotNil rfl rfl rfl) rfl ?_ | refine RO.q0 rfl (QOk.eqIT rfl rfl rfl (by first | decide | assumption | (simp only [List.cons.injEq]; omega))) rfl ?_ | refine RO.q0 rfl (QOk.eqIF rfl rfl rfl (by first | decide | assumption | (simp only [List.cons.injEq]; omega))) rfl ?_ | refine RO.cmpS rfl rfl rfl rfl (fun h => ?_) (fun h => ?_)); all_goals refine RO.nil ?_) | (refine R.region (id := 3) ?_; all_goals (refine RO.q0 rfl (QOk.move rfl) rfl ?_); all_goals (refine RO.q0 rfl (QOk.assign rfl) rfl ?_); all_goals refine RO.nil ?_) | (refine R.draw (id := 4) [⟨0, 1, []⟩, ⟨1, 1, []⟩, ⟨2, 1, []⟩, ⟨3, 1, []⟩, ⟨4, 1, []⟩, ⟨5, 1, []⟩, ⟨6, 1, []⟩, ⟨7, 1, []⟩, ⟨8, 1, []⟩] (fl := []) mo (Floats.nil) (by decide +kernel) ?_; all_goals (refine RD.q0 rfl rfl (QOk.move rfl) rfl ?_); all_goals (refine RD.q0 rfl rfl (QOk.move rfl) rfl ?_); all_goals (first | refine RD.q0 rfl rfl (QOk.indexAddrC rfl rfl rfl) rfl ?_ | refine RD.q0 rfl rfl (QOk.indexAddrAC rfl rfl rfl) rfl ?_ | refine RD.q0 rfl rfl (QOk.indexAddr rfl rfl (by omega)) rfl ?_ | refine RD.q0 rfl rfl (QOk.indexAddrA rfl rfl (by omega)) rfl ?_); all_goals (first | refine RD.ld rfl rfl rfl ?_ | refine RD.ldA rfl rfl rfl ?_ | refine RD.q0 rfl rfl (QOk.ldM rfl (by assumption)) rfl ?_ | refine RD.q0 rfl rfl (QOk.ldMA rfl (by assumption) (by first | rfl | assumption)) rfl ?_ | refine RD.q0 rfl rfl (QOk.ldMW rfl (by assumption)) rfl ?_ | refine RD.q0 rfl rfl (QOk.ldMWA rfl (by assumption)) rfl ?_ | refine RD.q0 rfl rfl (QOk.ldM0 rfl (by assumption)) rfl ?_ | refine RD.q0 rfl rfl (QOk.ldM0A rfl (by assumption)) rfl ?_ | refine RD.q0 rfl rfl (QOk.loadMem0 rfl (by assumption)) rfl ?_); all_goals (refine RD.q0 rfl rfl (QOk.move rfl) rfl ?_); all_goals (refine RD.q0 rfl rfl (QOk.move rfl) rfl ?_); all_goals (first | refine RD.q0 rfl rfl (QOk.indexAddrC rfl rfl rfl) rfl ?_ | refine RD.q0 rfl rfl (QOk.indexAddrAC rfl rfl rfl) rfl ?_ | refine RD.q0 rfl rfl (QOk.indexAddr rfl rfl (by omega)) rfl ?_ | refine RD.q0 rfl rfl (QOk.indexAddrA rfl rfl (by omega)) rfl ?_); all_goals (first | refine RD.ld rfl rfl rfl ?_ | refine RD.ldA rfl rfl rfl ?_ | refine RD.q0 rfl rfl (QOk.ldM rfl (by assumption)) rfl ?_ | refine RD.q0 rfl rfl (QOk.ldMA rfl (by assumption) (by first | rfl | assumption)) rfl ?_ | refine RD.q0 rfl rfl (QOk.ldMW rfl (by assumption)) rfl ?_ | refine RD.q0 rfl rfl (QOk.ldMWA rfl (by assumption)) rfl ?_ | refine RD.q0 rfl rfl (QOk.ldM0 rfl (by assumption)) rfl ?_ | refine RD.q0 rfl rfl (QOk.ldM0A rfl (by assumption)) rfl ?_ | refine RD.q0 rfl rfl (QOk.loadMem0 rfl (by assumption)) rfl ?_); all_goals (first | refine RD.q0 rfl rfl (QOk.cmpT rfl rfl rfl (by first | decide | omega)) rfl ?_ | refine RD.q0 rfl rfl (QOk.cmpF rfl rfl rfl (by first | decide | omega)) rfl ?_ | refine RD.q0 rfl rfl (QOk.strCmp rfl rfl rfl (by first | assumption | rfl)) rfl ?_ | refine RD.q0 rfl rfl (QOk.boolEq rfl rfl) rfl ?_ | refine RD.q0 rfl rfl (QOk.boolNe rfl rfl) rfl ?_ | refine RD.q0 rfl rfl (QOk.sliceNil rfl rfl rfl) rfl ?_ | refine RD.q0 rfl rfl (QOk.sliceNotNil rfl rfl rfl) rfl ?_ | refine RD.q0 rfl rfl (QOk.eqIT rfl rfl rfl (by first | decide | assumption | (simp only [List.cons.injEq]; omega))) rfl ?_ | refine RD.q0 rfl rfl (QOk.eqIF rfl rfl rfl (by first | decide | assumption | (simp only [List.cons.injEq]; omega))) rfl ?_ | refine RD.cmpS rfl rfl rfl rfl rfl (fun h => ?_) (fun h => ?_)); all_goals (refine RD.nil ?_)) | (refine R.draw (id := 5) [⟨0, 1, []⟩, ⟨1, 1, []⟩, ⟨2, 1, []⟩, ⟨3, 1, []⟩, ⟨4, 1, []⟩, ⟨5, 1, []⟩, ⟨6, 1, []⟩, ⟨7, 1, []⟩, ⟨8, 1, []⟩, ⟨9, 1, []⟩] (fl := []) mo (Floats.nil) (by decide +kernel) ?_; all_goals (refine RD.q0 rfl rfl (QOk.move rfl) rfl ?_); all_goals (refine RD.q0 rfl rfl (QOk.move rfl) rfl ?_); all_goals (first | refine RD.q0 rfl rfl (QOk.indexAddrC rfl rfl rfl) rfl ?_ | refine RD.q0 rfl rfl (QOk.indexAddrAC rfl rfl rfl) rfl ?_ | refine RD.q0 rfl rfl (QOk.indexAddr rfl rfl (by omega)) rfl ?_ | refine RD.q0 rfl rfl (QOk.indexAddrA rfl rfl (by omega)) rfl ?_); all_goals (first | refine RD.ld rfl rfl rfl ?_ | refine RD.ldA rfl rfl rfl ?_ | refine RD.q0 rfl rfl (QOk.ldM rfl (by assumption)) rfl ?_ | refine RD.q0 rfl rfl (QOk.ldMA rfl (by assumption) (by first | rfl | assumption)) rfl ?_ | refine RD.q0 rfl rfl (QOk.ldMW rfl (by assumption)) rfl ?_ | refine RD.q0 rfl rfl (QOk.ldMWA rfl (by assumption)) rfl ?_ | refine RD.q0 rfl rfl (QOk.ldM0 rfl (by assumption)) rfl ?_ | refine RD.q0 rfl rfl (QOk.ldM0A rfl (by assumption)) rfl ?_ | refine RD.q0 rfl rfl (QOk.loadMem0 rfl (by assumption)) rfl ?_); all_goals (refine RD.q0 rfl rfl (QOk.move rfl) rfl ?_); all_goals (refine RD.q0 rfl rfl (QOk.move rfl) rfl ?_); all_goals (first | refine RD.q0 rfl rfl (QOk.indexAddrC rfl rfl rfl) rfl ?_ | refine RD.q0 rfl rfl (QOk.indexAddrAC rfl rfl rfl) rfl ?_ | refine RD.q0 rfl rfl (QOk.indexAddr rfl rfl (by omega)) rfl ?_ | refine RD.q0 rfl rfl (QOk.indexAddrA rfl rfl (by omega)) rfl ?_); all_goals (first | refine RD.ld rfl rfl rfl ?_ | refine RD.ldA rfl rfl rfl ?_ | refine RD.q0 rfl rfl (QOk.ldM rfl (by assumption)) rfl ?_ | refine RD.q0 rfl rfl (QOk.ldMA rfl (by assumption) (by first | rfl | assumption)) rfl ?_ | refine RD.q0 rfl rfl (QOk.ldMW rfl (by assumption)) rfl ?_ | refine RD.q0 rfl rfl (QOk.ldMWA rfl (by assumption)) rfl ?_ | refine RD.q0 rfl rfl (QOk.ldM0 rfl (by assumption)) rfl ?_ | refine RD.q0 rfl rfl (QOk.ldM0A rfl (by assumption)) rfl ?_ | refine RD.q0 rfl rfl (QOk.loadMem0 rfl (by assumption)) rfl ?_); all_goals (first | refine RD.q0 rfl rfl (QOk.cmpT rfl rfl rfl (by first | decide | omega)) rfl ?_ | refine RD.q0 rfl rfl (QOk.cmpF rfl rfl rfl (by first | decide | omega)) rfl ?_ | refine RD.q0 rfl rfl (QOk.strCmp rfl rfl rfl (by first | assumption | rfl)) rfl ?_ | refine RD.q0 rfl rfl (QOk.boolEq rfl rfl) rfl ?_ | refine RD.q0 rfl rfl (QOk.boolNe rfl rfl) rfl ?_ | refine RD.q0 rfl rfl (QOk.sliceNil rfl rfl rfl) rfl ?_ | refine RD.q0 rfl rfl (QOk.sliceNotNil rfl rfl rfl) rfl ?_ | refine RD.q0 rfl rfl (QOk.eqIT rfl rfl rfl (by first | decide | assumption | (simp only [List.cons.injEq]; omega))) rfl ?_ | refine RD.q0 rfl rfl (QOk.eqIF rfl rfl rfl (by first | decide | assumption | (simp only [List.cons.injEq]; omega))) rfl ?_ | refine RD.cmpS rfl rfl rfl rfl rfl (fun h => ?_) (fun h => ?_)); all_goals (refine RD.q0 rfl rfl (QOk.assign rfl) rfl ?_); all_goals (refine RD.nil ?_)))
      exact R.ret0 Try.func13 rfl (.tmp rfl .nil) fun _ => ⟨rfl, rfl, by rw [hless]; rfl⟩
    · subst hxy
      repeat' (first | refine R.seq ?_ | refine R.skip ?_ | refine R.inBlock ?_ | refine R.block ?_ | refine R.condT rfl ?_ | refine R.condF rfl ?_ | refine R.exit rfl ?_ | refine R.label ?_ | (refine R.region (id := 2) ?_; all_goals (first | refine RO.q0 rfl (QOk.cmpT rfl rfl rfl (by first | decide | omega)) rfl ?_ | refine RO.q0 rfl (QOk.cmpF rfl rfl rfl (by first | decide | omega)) rfl ?_ | refine RO.q0 rfl (QOk.strCmp rfl rfl rfl (by first | assumption | rfl)) rfl ?_ | refine RO.q0 rfl (QOk.boolEq rfl rfl) rfl ?_ | refine RO.q0 rfl (QOk.boolNe rfl rfl) rfl ?_ | refine RO.q0 rfl (QOk.sliceNil rfl rfl rfl) rfl ?_ | refine RO.q0 rfl (QOk.sliceNotNil rfl rfl rfl) rfl ?_ | refine RO.q0 rfl (QOk.eqIT rfl rfl rfl (by first | decide | assumption | (simp only [List.cons.injEq]; omega))) rfl ?_ | refine RO.q0 rfl (QOk.eqIF rfl rfl rfl (by first | decide | assumption | (simp only [List.cons.injEq]; omega))) rfl ?_ | refine RO.cmpS rfl rfl rfl rfl (fun h => ?_) (fun h => ?_)); all_goals refine RO.nil ?_) | (refine R.region (id := 3) ?_; all_goals (refine RO.q0 rfl (QOk.move rfl) rfl ?_); all_goals (refine RO.q0 rfl (QOk.assign rfl) rfl ?_); all_goals refine RO.nil ?_) | (refine R.draw (id := 4) [⟨0, 1, []⟩, ⟨1, 1, []⟩, ⟨2, 1, []⟩, ⟨3, 1, []⟩, ⟨4, 1, []⟩, ⟨5, 1, []⟩, ⟨6, 1, []⟩, ⟨7, 1, []⟩, ⟨8, 1, []⟩] (fl := []) mo (Floats.nil) (by decide +kernel) ?_; all_goals (refine RD.q0 rfl rfl (QOk.move rfl) rfl ?_); all_goals (refine RD.q0 rfl rfl (QOk.move rfl) rfl ?_); all_goals (first | refine RD.q0 rfl rfl (QOk.indexAddrC rfl rfl rfl) rfl ?_ | refine RD.q0 rfl rfl (QOk.indexAddrAC rfl rfl rfl) rfl ?_ | refine RD.q0 rfl rfl (QOk.indexAddr rfl rfl (by omega)) rfl ?_ | refine RD.q0 rfl rfl (QOk.indexAddrA rfl rfl (by omega)) rfl ?_); all_goals (first | refine RD.ld rfl rfl rfl ?_ | refine RD.ldA rfl rfl rfl ?_ | refine RD.q0 rfl rfl (QOk.ldM rfl (by assumption)) rfl ?_ | refine RD.q0 rfl rfl (QOk.ldMA rfl (by assumption) (by first | rfl | assumption)) rfl ?_ | refine RD.q0 rfl rfl (QOk.ldMW rfl (by assumption)) rfl ?_ | refine RD.q0 rfl rfl (QOk.ldMWA rfl (by assumption)) rfl ?_ | refine RD.q0 rfl rfl (QOk.ldM0 rfl (by assumption)) rfl ?_ | refine RD.q0 rfl rfl (QOk.ldM0A rfl (by assumption)) rfl ?_ | refine RD.q0 rfl rfl (QOk.loadMem0 rfl (by assumption)) rfl ?_); all_goals (refine RD.q0 rfl rfl (QOk.move rfl) rfl ?_); all_goals (refine RD.q0 rfl rfl (QOk.move rfl) rfl ?_); all_goals (first | refine RD.q0 rfl rfl (QOk.indexAddrC rfl rfl rfl) rfl ?_ | refine RD.q0 rfl rfl (QOk.indexAddrAC rfl rfl rfl) rfl ?_ | refine RD.q0 rfl rfl (QOk.indexAddr rfl rfl (by omega)) rfl ?_ | refine RD.q0 rfl rfl (QOk.indexAddrA rfl rfl (by omega)) rfl ?_); all_goals (first | refine RD.ld rfl rfl rfl ?_ | refine RD.ldA rfl rfl rfl ?_ | refine RD.q0 rfl rfl (QOk.ldM rfl (by assumption)) rfl ?_ | refine RD.q0 rfl rfl (QOk.ldMA rfl (by assumption) (by first | rfl | assumption)) rfl ?_ | refine RD.q0 rfl rfl (QOk.ldMW rfl (by assumption)) rfl ?_ | refine RD.q0 rfl rfl (QOk.ldMWA rfl (by assumption)) rfl ?_ | refine RD.q0 rfl rfl (QOk.ldM0 rfl (by assumption)) rfl ?_ | refine RD.q0 rfl rfl (QOk.ldM0A rfl (by assumption)) rfl ?_ | refine RD.q0 rfl rfl (QOk.loadMem0 rfl (by assumption)) rfl ?_); all_goals (first | refine RD.q0 rfl rfl (QOk.cmpT rfl rfl rfl (by first | decide | omega)) rfl ?_ | refine RD.q0 rfl rfl (QOk.cmpF rfl rfl rfl (by first | decide | omega)) rfl ?_ | refine RD.q0 rfl rfl (QOk.strCmp rfl rfl rfl (by first | assumption | rfl)) rfl ?_ | refine RD.q0 rfl rfl (QOk.boolEq rfl rfl) rfl ?_ | refine RD.q0 rfl rfl (QOk.boolNe rfl rfl) rfl ?_ | refine RD.q0 rfl rfl (QOk.sliceNil rfl rfl rfl) rfl ?_ | refine RD.q0 rfl rfl (QOk.sliceNotNil rfl rfl rfl) rfl ?_ | refine RD.q0 rfl rfl (QOk.eqIT rfl rfl rfl (by first | decide | assumption | (simp only [List.cons.injEq]; omega))) rfl ?_ | refine RD.q0 rfl rfl (QOk.eqIF rfl rfl rfl (by first | decide | assumption | (simp only [List.cons.injEq]; omega))) rfl ?_ | refine RD.cmpS rfl rfl rfl rfl rfl (fun h => ?_) (fun h => ?_)); all_goals (refine RD.nil ?_)) | (refine R.region (id := 6) ?_; all_goals (first | refine RO.q0 rfl (QOk.arith rfl rfl rfl (w64 (by omega))) rfl ?_ | refine RO.q0 rfl (QOk.arith rfl rfl rfl (wu8 (by omega))) rfl ?_ | refine RO.q0 rfl (QOk.arith rfl rfl rfl (wu16 (by omega))) rfl ?_ | refine RO.q0 rfl (QOk.arith rfl rfl rfl (wu32 (by omega))) rfl ?_ | refine RO.q0 rfl (QOk.arith rfl rfl rfl (wu64 (by omega))) rfl ?_ | refine RO.q0 rfl (QOk.strAdd rfl rfl) rfl ?_); all_goals (refine RO.q0 rfl (QOk.move rfl) rfl ?_); all_goals refine RO.nil ?_))
      refine R.only ?_
      refine R.sub (e' := [(11, .int .i64 _), (10, .int .i64 m), (0, .slice _ n cap), (1, .slice _ n' cap')]) (by repeat (first | exact Sub.nil | refine Sub.cons rfl ?_)) ?_
      exact ih (k - 1) _ _ _ (by omega) ⟨rfl, i + 1, _, by omega, by omega, htk' rfl, rfl, rfl⟩
    · rw [if_neg (by omega), decide_eq_false (by omega)] at hless
      repeat' (first | refine R.seq ?_ | refine R.skip ?_ | refine R.inBlock ?_ | refine R.block ?_ | refine R.condT rfl ?_ | refine R.condF rfl ?_ | refine R.exit rfl ?_ | refine R.label ?_ | (refine R.region (id := 2) ?_; all_goals (first | refine RO.q0 rfl (QOk.cmpT rfl rfl rfl (by first | decide | omega)) rfl ?_ | refine RO.q0 rfl (QOk.cmpF rfl rfl rfl (by first | decide | omega)) rfl ?_ | refine RO.q0 rfl (QOk.strCmp rfl rfl rfl (by first | assumption | rfl)) rfl ?_ | refine RO.q0 rfl (QOk.boolEq rfl rfl) rfl ?_ | refine RO.q0 rfl (QOk.boolNe rfl rfl) rfl ?_ | refine RO.q0 rfl (QOk.sliceNil rfl rfl rfl) rfl ?_ | refine RO.q0 rfl (QOk.sliceNotNil rfl rfl rfl) rfl ?_ | refine RO.q0 rfl (QOk.eqIT rfl rfl rfl (by first | decide | assumption | (simp only [List.cons.injEq]; omega))) rfl ?_ | refine RO.q0 rfl (QOk.eqIF rfl rfl rfl (by first | decide | assumption | (simp only [List.cons.injEq]; omega))) rfl ?_ | refine RO.cmpS rfl rfl rfl rfl (fun h => ?_) (fun h => ?_)); all_goals refine RO.nil ?_) | (refine R.region (id := 3) ?_; all_goals (refine RO.q0 rfl (QOk.move rfl) rfl ?_); all_goals (refine RO.q0 rfl (QOk.assign rfl) rfl ?_); all_goals refine RO.nil ?_) | (refine R.draw (id := 4) [⟨0, 1, []⟩, ⟨1, 1, []⟩, ⟨2, 1, []⟩, ⟨3, 1, []⟩, ⟨4, 1, []⟩, ⟨5, 1, []⟩, ⟨6, 1, []⟩, ⟨7, 1, []⟩, ⟨8, 1, []⟩] (fl := []) mo (Floats.nil) (by decide +kernel) ?_; all_goals (refine RD.q0 rfl rfl (QOk.move rfl) rfl ?_); all_goals (refine RD.q0 rfl rfl (QOk.move rfl) rfl ?_); all_goals (first | refine RD.q0 rfl rfl (QOk.indexAddrC rfl rfl rfl) rfl ?_ | refine RD.q0 rfl rfl (QOk.indexAddrAC rfl rfl rfl) rfl ?_ | refine RD.q0 rfl rfl (QOk.indexAddr rfl rfl (by omega)) rfl ?_ | refine RD.q0 rfl rfl (QOk.indexAddrA rfl rfl (by omega)) rfl ?_); all_goals (first | refine RD.ld rfl rfl rfl ?_ | refine RD.ldA rfl rfl rfl ?_ | refine RD.q0 rfl rfl (QOk.ldM rfl (by assumption)) rfl ?_ | refine RD.q0 rfl rfl (QOk.ldMA rfl (by assumption) (by first | rfl | assumption)) rfl ?_ | refine RD.q0 rfl rfl (QOk.ldMW rfl (by assumption)) rfl ?_ | refine RD.q0 rfl rfl (QOk.ldMWA rfl (by assumption)) rfl ?_ | refine RD.q0 rfl rfl (QOk.ldM0 rfl (by assumption)) rfl ?_ | refine RD.q0 rfl rfl (QOk.ldM0A rfl (by assumption)) rfl ?_ | refine RD.q0 rfl rfl (QOk.loadMem0 rfl (by assumption)) rfl ?_); all_goals (refine RD.q0 rfl rfl (QOk.move rfl) rfl ?_); all_goals (refine RD.q0 rfl rfl (QOk.move rfl) rfl ?_); all_goals (first | refine RD.q0 rfl rfl (QOk.indexAddrC rfl rfl rfl) rfl ?_ | refine RD.q0 rfl rfl (QOk.indexAddrAC rfl rfl rfl) rfl ?_ | refine RD.q0 rfl rfl (QOk.indexAddr rfl rfl (by omega)) rfl ?_ | refine RD.q0 rfl rfl (QOk.indexAddrA rfl rfl (by omega)) rfl ?_); all_goals (first | refine RD.ld rfl rfl rfl ?_ | refine RD.ldA rfl rfl rfl ?_ | refine RD.q0 rfl rfl (QOk.ldM rfl (by assumption)) rfl ?_ | refine RD.q0 rfl rfl (QOk.ldMA rfl (by assumption) (by first | rfl | assumption)) rfl ?_ | refine RD.q0 rfl rfl (QOk.ldMW rfl (by assumption)) rfl ?_ | refine RD.q0 rfl rfl (QOk.ldMWA rfl (by assumption)) rfl ?_ | refine RD.q0 rfl rfl (QOk.ldM0 rfl (by assumption)) rfl ?_ | refine RD.q0 rfl rfl (QOk.ldM0A rfl (by assumption)) rfl ?_ | refine RD.q0 rfl rfl (QOk.loadMem0 rfl (by assumption)) rfl ?_); all_goals (first | refine RD.q0 rfl rfl (QOk.cmpT rfl rfl rfl (by first | decide | omega)) rfl ?_ | refine RD.q0 rfl rfl (QOk.cmpF rfl rfl rfl (by first | decide | omega)) rfl ?_ | refine RD.q0 rfl rfl (QOk.strCmp rfl rfl rfl (by first | assumption | rfl)) rfl ?_ | refine RD.q0 rfl rfl (QOk.boolEq rfl rfl) rfl ?_ | refine RD.q0 rfl rfl (QOk.boolNe rfl rfl) rfl ?_ | refine RD.q0 rfl rfl (QOk.sliceNil rfl rfl rfl) rfl ?_ | refine RD.q0 rfl rfl (QOk.sliceNotNil rfl rfl rfl) rfl ?_ | refine RD.q0 rfl rfl (QOk.eqIT rfl rfl rfl (by first | decide | assumption | (simp only [List.cons.injEq]; omega))) rfl ?_ | refine RD.q0 rfl rfl (QOk.eqIF rfl rfl rfl (by first | decide | assumption | (simp only [List.cons.injEq]; omega))) rfl ?_ | refine RD.cmpS rfl rfl rfl rfl rfl (fun h => ?_) (fun h => ?_)); all_goals (refine RD.nil ?_)) | (refine R.draw (id := 5) [⟨0, 1, []⟩, ⟨1, 1, []⟩, ⟨2, 1, []⟩, ⟨3, 1, []⟩, ⟨4, 1, []⟩, ⟨5, 1, []⟩, ⟨6, 1, []⟩, ⟨7, 1, []⟩, ⟨8, 1, []⟩, ⟨9, 1, []⟩] (fl := []) mo (Floats.nil) (by decide +kernel) ?_; all_goals (refine RD.q0 rfl rfl (QOk.move rfl) rfl ?_); all_goals (refine RD.q0 rfl rfl (QOk.move rfl) rfl ?_); all_goals (first | refine RD.q0 rfl rfl (QOk.indexAddrC rfl rfl rfl) rfl ?_ | refine RD.q0 rfl rfl (QOk.indexAddrAC rfl rfl rfl) rfl ?_ | refine RD.q0 rfl rfl (QOk.indexAddr rfl rfl (by omega)) rfl ?_ | refine RD.q0 rfl rfl (QOk.indexAddrA rfl rfl (by omega)) rfl ?_); all_goals (first | refine RD.ld rfl rfl rfl ?_ | refine RD.ldA rfl rfl rfl ?_ | refine RD.q0 rfl rfl (QOk.ldM rfl (by assumption)) rfl ?_ | refine RD.q0 rfl rfl (QOk.ldMA rfl (by assumption) (by first | rfl | assumption)) rfl ?_ | refine RD.q0 rfl rfl (QOk.ldMW rfl (by assumption)) rfl ?_ | refine RD.q0 rfl rfl (QOk.ldMWA rfl (by assumption)) rfl ?_ | refine RD.q0 rfl rfl (QOk.ldM0 rfl (by assumption)) rfl ?_ | refine RD.q0 rfl rfl (QOk.ldM0A rfl (by assumption)) rfl ?_ | refine RD.q0 rfl rfl (QOk.loadMem0 rfl (by assumption)) rfl ?_); all_goals (refine RD.q0 rfl rfl (QOk.move rfl) rfl ?_); all_goals (refine RD.q0 rfl rfl (QOk.move rfl) rfl ?_); all_goals (first | refine RD.q0 rfl rfl (QOk.indexAddrC rfl rfl rfl) rfl ?_ | refine RD.q0 rfl rfl (QOk.indexAddrAC rfl rfl rfl) rfl ?_ | refine RD.q0 rfl rfl (QOk.indexAddr rfl rfl (by omega)) rfl ?_ | refine RD.q0 rfl rfl (QOk.indexAddrA rfl rfl (by omega)) rfl ?_); all_goals (first | refine RD.ld rfl rfl rfl ?_ | refine RD.ldA rfl rfl rfl ?_ | refine RD.q0 rfl rfl (QOk.ldM rfl (by assumption)) rfl ?_ | refine RD.q0 rfl rfl (QOk.ldMA rfl (by assumption) (by first | rfl | assumption)) rfl ?_ | refine RD.q0 rfl rfl (QOk.ldMW rfl (by assumption)) rfl ?_ | refine RD.q0 rfl rfl (QOk.ldMWA rfl (by assumption)) rfl ?_ | refine RD.q0 rfl rfl (QOk.ldM0 rfl (by assumption)) rfl ?_ | refine RD.q0 rfl rfl (QOk.ldM0A rfl (by assumption)) rfl ?_ | refine RD.q0 rfl rfl (QOk.loadMem0 rfl (by assumption)) rfl ?_); all_goals (first | refine RD.q0 rfl rfl (QOk.cmpT rfl rfl rfl (by first | decide | omega)) rfl ?_ | refine RD.q0 rfl rfl (QOk.cmpF rfl rfl rfl (by first | decide | omega)) rfl ?_ | refine RD.q0 rfl rfl (QOk.strCmp rfl rfl rfl (by first | assumption | rfl)) rfl ?_ | refine RD.q0 rfl rfl (QOk.boolEq rfl rfl) rfl ?_ | refine RD.q0 rfl rfl (QOk.boolNe rfl rfl) rfl ?_ | refine RD.q0 rfl rfl (QOk.sliceNil rfl rfl rfl) rfl ?_ | refine RD.q0 rfl rfl (QOk.sliceNotNil rfl rfl rfl) rfl ?_ | refine RD.q0 rfl rfl (QOk.eqIT rfl rfl rfl (by first | decide | assumption | (simp only [List.cons.injEq]; omega))) rfl ?_ | refine RD.q0 rfl rfl (QOk.eqIF rfl rfl rfl (by first | decide | assumption | (simp only [List.cons.injEq]; omega))) rfl ?_ | refine RD.cmpS rfl rfl rfl rfl rfl (fun h => ?_) (fun h => ?_)); all_goals (refine RD.q0 rfl rfl (QOk.assign rfl) rfl ?_); all_goals (refine RD.nil ?_)))
      exact R.ret0 Try.func13 rfl (.tmp rfl .nil) fun _ => ⟨rfl, rfl, by rw [hless]; rfl⟩
/-! ### What holds of goals -/
def wAt : PT → Int → List Int → Int
  | _, w, [] => w
  | t, w, i :: is => match t.sub[i.toNat]? with
    | some q => wAt q (w / (2 * t.sub.length)) is
    | none => 0
theorem stepsL_at {skip : List Int → Bool} : ∀ {l : List PT} {place : List Int} {w i : Int} {s : Stp}, s ∈ stepsL skip place w i l → ∃ j : Nat, ∃ h : j < l.length, s ∈ steps skip (place ++ [i + j]) w l[j]
  | [], place, w, i, s, h => by rw [stepsL] at h; cases h
  | t :: ts, place, w, i, s, h => by
    rw [stepsL, List.mem_append] at h
    rcases h with h | h
    · exact ⟨0, by simp, by simpa using h⟩
    · obtain ⟨j, hj, hs⟩ := stepsL_at h
      refine ⟨j + 1, by simpa using hj, ?_⟩
      have : i + 1 + (j : Int) = i + ((j + 1 : Nat) : Int) := by omega
      rw [this] at hs
      simpa using hs
theorem steps_at (skip : List Int → Bool) : ∀ (t : PT) (place : List Int) (w : Int), ∀ s ∈ steps skip place w t, ∃ rel, s.place = place ++ rel ∧ atP t rel = some s.p ∧ wAt t w rel = s.w
  | .mk h sub, place, w, s, hs => by
    rw [steps, List.mem_cons] at hs
    rcases hs with rfl | hs
    · exact ⟨[], by simp, rfl, rfl⟩
    · split at hs
      · cases hs
      · obtain ⟨j, hj, hs⟩ := stepsL_at hs
        rw [Int.zero_add] at hs
        obtain ⟨rel, h1, h2, h3⟩ := steps_at skip sub[j] (place ++ [(j : Int)]) _ s hs
        have hjj : sub[((j : Int)).toNat]? = some sub[j] := by simp [hj]
        refine ⟨(j : Int) :: rel, by rw [h1]; simp, ?_, ?_⟩
        · rw [atP, if_pos (by omega), PT.sub, hjj]; exact h2
        · rw [wAt, PT.sub, hjj]; exact h3
termination_by t => SizeOf.sizeOf t
decreasing_by
  have := List.sizeOf_lt_of_mem (List.getElem_mem hj)
  simp only [PT.mk.sizeOf_spec]; omega
theorem stepsL_sorted {skip : List Int → Bool} : ∀ {l : List PT} {place : List Int} {w i : Int}, (∀ q ∈ l, ∀ pl w, (steps skip pl w q).Pairwise fun a b => lessP a.place b.place = true) → (stepsL skip place w i l).Pairwise fun a b => lessP a.place b.place = true
  | [], place, w, i, _ => by rw [stepsL]; exact .nil
  | t :: ts, place, w, i, hq => by
    rw [stepsL, List.pairwise_append]
    refine ⟨hq t (List.mem_cons_self ..) _ _, stepsL_sorted fun q h => hq q (List.mem_cons_of_mem _ h), fun a ha b hb => ?_⟩
    obtain ⟨r1, h1, _⟩ := steps_at skip t _ _ a ha
    obtain ⟨j, hj, hb⟩ := stepsL_at hb
    obtain ⟨r2, h2, _⟩ := steps_at skip _ _ _ b hb
    rw [h1, h2, List.append_assoc, List.append_assoc, lessP_append, List.singleton_append, List.singleton_append, lessP, if_neg (by omega), decide_eq_true (by omega)]
theorem steps_sorted (skip : List Int → Bool) : ∀ (t : PT) (place : List Int) (w : Int), (steps skip place w t).Pairwise fun a b => lessP a.place b.place = true
  | .mk h sub, place, w => by
    rw [steps, List.pairwise_cons]
    refine ⟨fun s hs => ?_, ?_⟩
    · split at hs
      · cases hs
      · obtain ⟨j, hj, hs⟩ := stepsL_at hs
        obtain ⟨r, h1, _⟩ := steps_at skip _ _ _ s hs
        rw [h1]
        have := lessP_append place [] ([0 + (j : Int)] ++ r)
        rw [List.append_nil] at this
        simp only [List.append_assoc]
        rw [this]; rfl
    · split
      · exact .nil
      · exact stepsL_sorted fun q hq pl w => steps_sorted skip q pl w
termination_by t => SizeOf.sizeOf t
decreasing_by
  have := List.sizeOf_lt_of_mem hq
  simp only [PT.mk.sizeOf_spec]; omega
theorem skipW_nil (p : List Int) : skipW [] p = false := rfl
mutual
theorem cntH_goals : ∀ (t : PT) (place : List Int) (w : Int), cntH t = ((goalsOf [] (steps (skipW []) place w t)).length : Int)
  | .mk h sub, place, w => by
    have e1 : steps (skipW []) place w (.mk h sub) = [⟨place, w, .mk h sub⟩] ++ stepsL (skipW []) place (w / (2 * sub.length)) 0 sub := by rw [steps]; rfl
    rw [e1, goalsOf_append, List.length_append, cntH, cntHL_goals sub place (w / (2 * sub.length)) 0]
    cases hq : isQ h.r
    · have hg : isGoal [] ⟨place, w, .mk h sub⟩ = false := by rw [isGoal, PT.h, hq, skipW_nil]; rfl
      simp [goalsOf, hg]
    · have hg : isGoal [] ⟨place, w, .mk h sub⟩ = true := by rw [isGoal, PT.h, hq]; rfl
      simp [goalsOf, hg]
theorem cntHL_goals : ∀ (l : List PT) (place : List Int) (w i : Int), cntHL l = ((goalsOf [] (stepsL (skipW []) place w i l)).length : Int)
  | [], _, _, _ => by rw [stepsL, cntHL]; rfl
  | t :: ts, place, w, i => by
    rw [stepsL, goalsOf_append, List.length_append, cntHL, cntH_goals t (place ++ [i]) w, cntHL_goals ts place w (i + 1)]
    omega
end
theorem goals_sorted {ws : List Wp} {t : PT} : (goals ws t).Pairwise fun a b => lessP a.1 b.1 = true := by
  rw [goals, goalsOf, List.pairwise_map]
  exact ((steps_sorted (skipW ws) t [] whole).sublist List.filter_sublist)
theorem goals_at {t : PT} : ∀ x ∈ goals [] t, ∃ q, atP t x.1 = some q ∧ isQ q.h.r = true ∧ wAt t whole x.1 = x.2 := by
  intro x hx
  simp only [goals, goalsOf, List.mem_map, List.mem_filter] at hx
  obtain ⟨s, ⟨hs, hg⟩, rfl⟩ := hx
  obtain ⟨rel, h1, h2, h3⟩ := steps_at _ t [] whole s hs
  rw [List.nil_append] at h1
  rw [isGoal, skipW_nil, Bool.or_false] at hg
  exact ⟨s.p, by rw [h1]; exact h2, hg, by rw [h1]; exact h3⟩
end Go.Proofs.Ytbdnfllpdlbboaa
