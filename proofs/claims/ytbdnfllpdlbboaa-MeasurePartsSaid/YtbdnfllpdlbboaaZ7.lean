import Derived.Test.YtbdnfllpdlbboaaZ6
namespace Go.Proofs.Ytbdnfllpdlbboaa
open Go Go.Zed
attribute [local irreducible] R RO RD OpOk QOk
set_option maxRecDepth 10000
set_option maxHeartbeats 4000000
theorem chk_msr {t : PT} {ws : List Wp} (hc : chk t ws = 0) : msr t = true := by
  cases hm : msr t
  · rw [chk, hm] at hc; simp at hc
  · rfl
/-- The weights of goals, together. -/
def sumw : List (List Int × Int) → Int
  | [] => 0
  | x :: l => x.2 + sumw l
theorem sumw_append : ∀ (a b : List (List Int × Int)), sumw (a ++ b) = sumw a + sumw b
  | [], b => by simp [sumw]
  | x :: a, b => by simp only [List.cons_append, sumw, sumw_append a b]; omega
theorem goalsOf_append (ws : List Wp) (a b : List Stp) : goalsOf ws (a ++ b) = goalsOf ws a ++ goalsOf ws b := by simp [goalsOf]
/-- Holes have no parts. -/
inductive HoleOk : PT → Prop
  | mk {h : PH} {sub : List PT} (h1 : isQ h.r = true → sub = []) (h2 : ∀ q ∈ sub, HoleOk q) : HoleOk (.mk h sub)
mutual
theorem holeOk_of : ∀ (t : PT) (place : List Int) (w : Int), (∀ s ∈ steps sk40 place w t, good s = true) → HoleOk t
  | .mk h sub, place, w, hall => by
    rw [steps] at hall
    have h0 := good_iff.1 (hall _ (List.mem_cons_self ..))
    have hk : ¬ sk40 place = true := by simp [sk40]; omega
    rw [if_neg hk] at hall
    refine .mk (fun hq => ?_) (holeOkL_of sub place _ 0 fun s hs => hall s (List.mem_cons_of_mem _ hs))
    have : ¬ 0 < sub.length := fun hp => h0.2.2 ⟨hq, hp⟩
    exact List.eq_nil_of_length_eq_zero (by omega)
theorem holeOkL_of : ∀ (l : List PT) (place : List Int) (w i : Int), (∀ s ∈ stepsL sk40 place w i l, good s = true) → ∀ q ∈ l, HoleOk q
  | [], _, _, _, _, q, hq => by cases hq
  | t :: ts, place, w, i, hall, q, hq => by
    rw [stepsL] at hall
    rcases List.mem_cons.1 hq with h | hq
    · rw [h]; exact holeOk_of t _ w fun s hs => hall s (List.mem_append_left _ hs)
    · exact holeOkL_of ts place w (i + 1) (fun s hs => hall s (List.mem_append_right _ hs)) q hq
end
theorem msr_holeOk {t : PT} (h : msr t = true) : HoleOk t := by
  simp only [msr, Bool.and_eq_true, List.all_eq_true] at h
  exact holeOk_of t [] whole h.2
mutual
theorem sumw_le (ws : List Wp) : ∀ (t : PT) (place : List Int) (w : Int), HoleOk t → 0 ≤ w → 0 ≤ sumw (goalsOf ws (steps (skipW ws) place w t)) ∧ sumw (goalsOf ws (steps (skipW ws) place w t)) ≤ w
  | .mk h sub, place, w, ho, hw => by
    obtain ⟨h1, h2⟩ := ho
    have e1 : steps (skipW ws) place w (.mk h sub) = [⟨place, w, .mk h sub⟩] ++ (if skipW ws place then [] else stepsL (skipW ws) place (w / (2 * sub.length)) 0 sub) := by rw [steps]; rfl
    rw [e1, goalsOf_append, sumw_append]
    by_cases hs : skipW ws place = true
    · rw [if_pos hs]
      have hg : isGoal ws ⟨place, w, .mk h sub⟩ = true := by rw [isGoal, hs, Bool.or_true]
      simp [goalsOf, hg, sumw]; exact hw
    · rw [if_neg hs]
      have hs' : skipW ws place = false := by simpa using hs
      by_cases hq : isQ h.r = true
      · have := h1 hq
        subst this
        rw [stepsL]
        have hg : isGoal ws ⟨place, w, .mk h []⟩ = true := by rw [isGoal, PT.h, hq, Bool.true_or]
        simp [goalsOf, hg, sumw]; exact hw
      · have hq' : isQ h.r = false := by simpa using hq
        have hg : isGoal ws ⟨place, w, .mk h sub⟩ = false := by rw [isGoal, PT.h, hq', hs']; rfl
        have e2 : goalsOf ws [(⟨place, w, .mk h sub⟩ : Stp)] = [] := by simp [goalsOf, hg]
        rw [e2, sumw, Int.zero_add]
        have hw' : 0 ≤ w / (2 * (sub.length : Int)) := Int.ediv_nonneg hw (by omega)
        have := sumwL_le ws sub place (w / (2 * (sub.length : Int))) 0 h2 hw'
        refine ⟨this.1, Int.le_trans this.2 ?_⟩
        rcases Nat.eq_zero_or_pos sub.length with h0 | h0
        · rw [h0]; simp; exact hw
        · have h3 := Int.mul_ediv_self_le (x := w) (k := 2 * (sub.length : Int)) (by omega)
          have h4 : (sub.length : Int) * (w / (2 * (sub.length : Int))) ≤ 2 * (sub.length : Int) * (w / (2 * (sub.length : Int))) := Int.mul_le_mul_of_nonneg_right (by omega) hw'
          omega
theorem sumwL_le (ws : List Wp) : ∀ (l : List PT) (place : List Int) (w i : Int), (∀ q ∈ l, HoleOk q) → 0 ≤ w → 0 ≤ sumw (goalsOf ws (stepsL (skipW ws) place w i l)) ∧ sumw (goalsOf ws (stepsL (skipW ws) place w i l)) ≤ l.length * w
  | [], _, _, _, _, _ => by rw [stepsL]; simp [goalsOf, sumw]
  | t :: ts, place, w, i, ho, hw => by
    rw [stepsL, goalsOf_append, sumw_append]
    have h1 := sumw_le ws t (place ++ [i]) w (ho t (List.mem_cons_self ..)) hw
    have h2 := sumwL_le ws ts place w (i + 1) (fun q hq => ho q (List.mem_cons_of_mem _ hq)) hw
    have e : (((t :: ts).length : Nat) : Int) * w = w + (ts.length : Int) * w := by simp; rw [Int.add_mul]; omega
    rw [e]; omega
end
mutual
theorem wt_nonneg (skip : List Int → Bool) : ∀ (t : PT) (place : List Int) (w : Int), 0 ≤ w → ∀ s ∈ steps skip place w t, 0 ≤ s.w
  | .mk h sub, place, w, hw, s, hs => by
    rw [steps, List.mem_cons] at hs
    rcases hs with rfl | hs
    · exact hw
    · split at hs
      · cases hs
      · exact wtL_nonneg skip sub place _ 0 (Int.ediv_nonneg hw (by omega)) s hs
theorem wtL_nonneg (skip : List Int → Bool) : ∀ (l : List PT) (place : List Int) (w i : Int), 0 ≤ w → ∀ s ∈ stepsL skip place w i l, 0 ≤ s.w
  | [], _, _, _, _, s, hs => by rw [stepsL] at hs; cases hs
  | t :: ts, place, w, i, hw, s, hs => by
    rw [stepsL, List.mem_append] at hs
    rcases hs with hs | hs
    · exact wt_nonneg skip t _ w hw s hs
    · exact wtL_nonneg skip ts place w (i + 1) hw s hs
end
theorem goals_nonneg {ws : List Wp} {t : PT} : ∀ x ∈ goals ws t, 0 ≤ x.2 := by
  intro x hx
  simp only [goals, goalsOf, List.mem_map, List.mem_filter] at hx
  obtain ⟨s, ⟨hs, _⟩, rfl⟩ := hx
  exact wt_nonneg _ t [] whole (by decide) s hs
theorem goals_sum {ws : List Wp} {t : PT} (h : msr t = true) : 0 ≤ sumw (goals ws t) ∧ sumw (goals ws t) ≤ whole := sumw_le ws t [] whole (msr_holeOk h) (by decide)
theorem goals_len {ws : List Wp} {t : PT} (h : msr t = true) : (goals ws t).length ≤ 300 := by
  have := (steps_bounds h (skipW ws)).1
  rw [goals, goalsOf, List.length_map]
  exact Nat.le_trans (List.length_filter_le _ _) this
/-- Progress. -/
def prg (ws : List Wp) (t : PT) : Int := if goals ws t = [] then whole - sumw (goals ws t) else min (whole - sumw (goals ws t)) (whole - 1)
theorem prg_b {ws : List Wp} {t : PT} (h : msr t = true) : 0 ≤ prg ws t ∧ prg ws t ≤ whole := by
  have := goals_sum (ws := ws) h
  unfold prg
  split <;> simp only [whole] at * <;> omega
def prm (ws : List Wp) (t : PT) : Int := if goals ws t = [] then 1000 else min ((1000 * (prg ws t / 1073741824) + 1000 * (prg ws t % 1073741824) / 1073741824) / 1073741824) 999
section
variable {c : Cx} {g : Img} {D : List Deferred} {ty : TypeId} {e : List (Nat × Value)} {own r : List HProp} {K : Value → List HProp → Img → Prop} {xs : List Operand} {ats : Array TypeId} {fid N : Nat} {F0 : Frag} {g0 : Img} {Post : Value → List HProp → Img → Prop}
theorem c_goals {t : PT} {a : Option Addr} {n cap : Nat} {ws : List Wp} (hx : evs e xs = some [.agg t.h.cells.toArray, .slice a n cap]) (hr : Rep g t) (hws : Places g a n ws) (hn : ws.length ≤ 1000000000000) (hel : ∀ w ∈ ws, w.l.length ≤ 1000000000000)
    (h1 : chk t ws ≠ 0 → ∀ g2, Le g g2 → K (.tuple [.slice none 0 0, .int .i64 (chk t ws)].toArray) own g2)
    (h2 : ∀ g2 ao no co gl, Le g g2 → chk t ws = 0 → Sl g2 2 ao no (gl.map Gl.cells) → GlRep g2 gl (goals ws t) → K (.tuple [.slice ao no co, .int .i64 0].toArray) own g2) :
    OpOk (fnCx Try.prog fid N F0 g0 Post) D (.call { callee := .value (.func 11), args := xs.toArray, argTypes := ats }) ty e own g K := by
  refine OpOk.callV (f := 11) (fl := []) (cl := []) rfl hx (fun F => goals_ok F g t hr hws hn hel) .nil ?_
  rintro v own' g' hle ⟨rfl, ⟨h, rfl⟩ | ⟨h, ao, no, co, gl, rfl, hs, hg⟩⟩
  · exact h1 h g' hle
  · exact h2 g' ao no co gl hle h hs hg
end
theorem progress_ok (F : Frag) (g : Img) (t : PT) (hr : Rep g t) {a : Option Addr} {n cap : Nat} {ws : List Wp} (hws : Places g a n ws) (hn : ws.length ≤ 1000000000000) (hel : ∀ w ∈ ws, w.l.length ≤ 1000000000000) :
    Fc Try.prog 17 #[.agg t.h.cells.toArray, .slice a n cap] [] F g (fun v own' _ => own' = [] ∧ v = .tuple [.int .i64 (if chk t ws = 0 then prg ws t else 0), .int .i64 (chk t ws)].toArray) := by
  refine Fc.of_body (args := [_, _]) Try.func17 rfl rfl ?_
  by_cases hc : chk t ws = 0
  · have hm := chk_msr hc
    have hsum := goals_sum (ws := ws) hm
    have hlen := goals_len (ws := ws) hm
    have hnn := goals_nonneg (ws := ws) (t := t)
    repeat' (first | refine R.seq ?_ | refine R.skip ?_ | refine R.inBlock ?_ | refine R.block ?_ | refine R.condT rfl ?_ | refine R.condF rfl ?_ | refine R.exit rfl ?_ | refine R.label ?_ | (refine R.region (id := 0) ?_; all_goals (refine RO.ef rfl (OpOk.box rfl (fun b => ?_))); all_goals (refine RO.q0 rfl (QOk.assign rfl) rfl ?_); all_goals (refine RO.q0 rfl (QOk.assign rfl) rfl ?_); all_goals refine RO.nil ?_) | (refine R.region (id := 1) ?_; all_goals (first | refine RO.ld rfl rfl ?_ | refine RO.ldA rfl rfl ?_ | refine RO.ldL rfl rfl (by assumption) ?_ | refine RO.ldLA rfl rfl (by assumption) (by first | rfl | assumption) ?_ | refine RO.ldLW rfl rfl (by assumption) ?_ | refine RO.q0 rfl (QOk.ldM rfl (by assumption)) rfl ?_ | refine RO.q0 rfl (QOk.ldMA rfl (by assumption) (by first | rfl | assumption)) rfl ?_ | refine RO.q0 rfl (QOk.ldMW rfl (by assumption)) rfl ?_ | refine RO.q0 rfl (QOk.ldMWA rfl (by assumption)) rfl ?_ | refine RO.q0 rfl (QOk.ldM0 rfl (by assumption)) rfl ?_ | refine RO.q0 rfl (QOk.ldM0A rfl (by assumption)) rfl ?_ | refine RO.q0 rfl (QOk.loadMem0 rfl (by assumption)) rfl ?_); all_goals (refine RO.q0 rfl (QOk.move rfl) rfl ?_); all_goals (first | refine RO.ef rfl (c_goals rfl hr hws hn hel (fun h => absurd hc h) (fun g2 ao no co gl hle _ hsl hgl => have hr := hr.mono hle; have hws := hws.mono hle; ?_)) | refine RO.ef rfl (c_goals rfl hr hws hn hel (fun h g2 hle => ?_) (fun _ _ _ _ _ _ h => absurd h hc))); all_goals (refine RO.q0 rfl (QOk.move rfl) rfl ?_); all_goals (refine RO.q0 rfl (QOk.extract rfl rfl) rfl ?_); all_goals (refine RO.q0 rfl (QOk.extract rfl rfl) rfl ?_); all_goals (refine RO.q0 rfl (QOk.assign rfl) rfl ?_); all_goals (refine RO.q0 rfl (QOk.assign rfl) rfl ?_); all_goals refine RO.nil ?_) | (refine R.region (id := 2) ?_; all_goals (refine RO.q0 rfl (QOk.move rfl) rfl ?_); all_goals (first | refine RO.q0 rfl (QOk.cmpT rfl rfl rfl (by first | decide | omega)) rfl ?_ | refine RO.q0 rfl (QOk.cmpF rfl rfl rfl (by first | decide | omega)) rfl ?_ | refine RO.q0 rfl (QOk.strCmp rfl rfl rfl (by first | assumption | rfl)) rfl ?_ | refine RO.q0 rfl (QOk.boolEq rfl rfl) rfl ?_ | refine RO.q0 rfl (QOk.boolNe rfl rfl) rfl ?_ | refine RO.q0 rfl (QOk.sliceNil rfl rfl rfl) rfl ?_ | refine RO.q0 rfl (QOk.sliceNotNil rfl rfl rfl) rfl ?_ | refine RO.q0 rfl (QOk.eqIT rfl rfl rfl (by first | decide | assumption | (simp only [List.cons.injEq]; omega))) rfl ?_ | refine RO.q0 rfl (QOk.eqIF rfl rfl rfl (by first | decide | assumption | (simp only [List.cons.injEq]; omega))) rfl ?_ | refine RO.cmpS rfl rfl rfl rfl (fun h => ?_) (fun h => ?_)); all_goals refine RO.nil ?_) | (refine R.region (id := 4) ?_; all_goals (refine RO.q0 rfl (QOk.assign rfl) rfl ?_); all_goals refine RO.nil ?_) | (refine R.region (id := 5) ?_; all_goals (refine RO.q0 rfl (QOk.move rfl) rfl ?_); all_goals (first | refine RO.q0 rfl (QOk.lenSlice rfl) rfl ?_ | refine RO.q0 rfl (QOk.lenStr rfl) rfl ?_ | refine RO.q0 rfl (QOk.lenArr rfl) rfl ?_); all_goals (refine RO.q0 rfl (QOk.move rfl) rfl ?_); all_goals refine RO.nil ?_))
    have hgl' : no = gl.length := by simpa using hsl.len
    have hgl2 : gl.length = (goals ws t).length := by rw [← hgl.eq, List.length_map]
    refine R.only ?_
    refine R.sub (e' := [(22, .int .i64 0), (21, .int .i64 no), (20, .slice ao no co), (8, .int .i64 1152921504606846976), (6, .slice ao no co)]) (by repeat (first | exact Sub.nil | refine Sub.cons rfl ?_)) ?_
    refine R.loop (fun k e own g' => g' = g2 ∧ ∃ (i : Nat) (iv z : Int), iv = i ∧ i + k = no ∧ z = whole - sumw ((goals ws t).take i) ∧ own = [] ∧
      e = [(22, .int .i64 iv), (21, .int .i64 no), (20, .slice ao no co), (8, .int .i64 z), (6, .slice ao no co)]) ?_ no ⟨rfl, 0, 0, _, rfl, by omega, rfl, rfl, rfl⟩
    rintro k e own g' ⟨rfl, i, _, z, rfl, hik, hz, rfl, rfl⟩ ih
    rcases Nat.eq_zero_or_pos k with rfl | hk
    · obtain rfl : i = no := by omega
      rw [hgl', hgl2, List.take_length] at hz
      have hv : (if chk t ws = 0 then prg ws t else 0) = if goals ws t = [] then z else min z 1152921504606846975 := by rw [if_pos hc, prg, hz]; rfl
      by_cases h0 : goals ws t = []
      · rw [if_pos h0] at hv
        have : i = 0 := by rw [hgl', hgl2, h0]; rfl
        repeat' (first | refine R.seq ?_ | refine R.skip ?_ | refine R.inBlock ?_ | refine R.block ?_ | refine R.condT rfl ?_ | refine R.condF rfl ?_ | refine R.exit rfl ?_ | refine R.label ?_ | (refine R.region (id := 6) ?_; all_goals (first | refine RO.q0 rfl (QOk.cmpT rfl rfl rfl (by first | decide | omega)) rfl ?_ | refine RO.q0 rfl (QOk.cmpF rfl rfl rfl (by first | decide | omega)) rfl ?_ | refine RO.q0 rfl (QOk.strCmp rfl rfl rfl (by first | assumption | rfl)) rfl ?_ | refine RO.q0 rfl (QOk.boolEq rfl rfl) rfl ?_ | refine RO.q0 rfl (QOk.boolNe rfl rfl) rfl ?_ | refine RO.q0 rfl (QOk.sliceNil rfl rfl rfl) rfl ?_ | refine RO.q0 rfl (QOk.sliceNotNil rfl rfl rfl) rfl ?_ | refine RO.q0 rfl (QOk.eqIT rfl rfl rfl (by first | decide | assumption | (simp only [List.cons.injEq]; omega))) rfl ?_ | refine RO.q0 rfl (QOk.eqIF rfl rfl rfl (by first | decide | assumption | (simp only [List.cons.injEq]; omega))) rfl ?_ | refine RO.cmpS rfl rfl rfl rfl (fun h => ?_) (fun h => ?_)); all_goals refine RO.nil ?_) | (refine R.region (id := 10) ?_; all_goals (refine RO.q0 rfl (QOk.move rfl) rfl ?_); all_goals (first | refine RO.q0 rfl (QOk.lenSlice rfl) rfl ?_ | refine RO.q0 rfl (QOk.lenStr rfl) rfl ?_ | refine RO.q0 rfl (QOk.lenArr rfl) rfl ?_); all_goals (first | refine RO.q0 rfl (QOk.cmpT rfl rfl rfl (by first | decide | omega)) rfl ?_ | refine RO.q0 rfl (QOk.cmpF rfl rfl rfl (by first | decide | omega)) rfl ?_ | refine RO.q0 rfl (QOk.strCmp rfl rfl rfl (by first | assumption | rfl)) rfl ?_ | refine RO.q0 rfl (QOk.boolEq rfl rfl) rfl ?_ | refine RO.q0 rfl (QOk.boolNe rfl rfl) rfl ?_ | refine RO.q0 rfl (QOk.sliceNil rfl rfl rfl) rfl ?_ | refine RO.q0 rfl (QOk.sliceNotNil rfl rfl rfl) rfl ?_ | refine RO.q0 rfl (QOk.eqIT rfl rfl rfl (by first | decide | assumption | (simp only [List.cons.injEq]; omega))) rfl ?_ | refine RO.q0 rfl (QOk.eqIF rfl rfl rfl (by first | decide | assumption | (simp only [List.cons.injEq]; omega))) rfl ?_ | refine RO.cmpS rfl rfl rfl rfl (fun h => ?_) (fun h => ?_)); all_goals refine RO.nil ?_) | (refine R.region (id := 12) ?_; all_goals (refine RO.q0 rfl (QOk.move rfl) rfl ?_); all_goals (refine RO.q0 rfl (QOk.assign rfl) rfl ?_); all_goals (refine RO.q0 rfl (QOk.assign rfl) rfl ?_); all_goals refine RO.nil ?_))
        exact R.ret0 Try.func17 rfl (.tmp rfl (.tmp rfl .nil)) fun _ => ⟨rfl, by rw [hv, hc]; rfl⟩
      · rw [if_neg h0] at hv
        have : 0 < i := by rw [hgl', hgl2]; exact List.length_pos_iff.2 h0
        repeat' (first | refine R.seq ?_ | refine R.skip ?_ | refine R.inBlock ?_ | refine R.block ?_ | refine R.condT rfl ?_ | refine R.condF rfl ?_ | refine R.exit rfl ?_ | refine R.label ?_ | (refine R.region (id := 6) ?_; all_goals (first | refine RO.q0 rfl (QOk.cmpT rfl rfl rfl (by first | decide | omega)) rfl ?_ | refine RO.q0 rfl (QOk.cmpF rfl rfl rfl (by first | decide | omega)) rfl ?_ | refine RO.q0 rfl (QOk.strCmp rfl rfl rfl (by first | assumption | rfl)) rfl ?_ | refine RO.q0 rfl (QOk.boolEq rfl rfl) rfl ?_ | refine RO.q0 rfl (QOk.boolNe rfl rfl) rfl ?_ | refine RO.q0 rfl (QOk.sliceNil rfl rfl rfl) rfl ?_ | refine RO.q0 rfl (QOk.sliceNotNil rfl rfl rfl) rfl ?_ | refine RO.q0 rfl (QOk.eqIT rfl rfl rfl (by first | decide | assumption | (simp only [List.cons.injEq]; omega))) rfl ?_ | refine RO.q0 rfl (QOk.eqIF rfl rfl rfl (by first | decide | assumption | (simp only [List.cons.injEq]; omega))) rfl ?_ | refine RO.cmpS rfl rfl rfl rfl (fun h => ?_) (fun h => ?_)); all_goals refine RO.nil ?_) | (refine R.region (id := 10) ?_; all_goals (refine RO.q0 rfl (QOk.move rfl) rfl ?_); all_goals (first | refine RO.q0 rfl (QOk.lenSlice rfl) rfl ?_ | refine RO.q0 rfl (QOk.lenStr rfl) rfl ?_ | refine RO.q0 rfl (QOk.lenArr rfl) rfl ?_); all_goals (first | refine RO.q0 rfl (QOk.cmpT rfl rfl rfl (by first | decide | omega)) rfl ?_ | refine RO.q0 rfl (QOk.cmpF rfl rfl rfl (by first | decide | omega)) rfl ?_ | refine RO.q0 rfl (QOk.strCmp rfl rfl rfl (by first | assumption | rfl)) rfl ?_ | refine RO.q0 rfl (QOk.boolEq rfl rfl) rfl ?_ | refine RO.q0 rfl (QOk.boolNe rfl rfl) rfl ?_ | refine RO.q0 rfl (QOk.sliceNil rfl rfl rfl) rfl ?_ | refine RO.q0 rfl (QOk.sliceNotNil rfl rfl rfl) rfl ?_ | refine RO.q0 rfl (QOk.eqIT rfl rfl rfl (by first | decide | assumption | (simp only [List.cons.injEq]; omega))) rfl ?_ | refine RO.q0 rfl (QOk.eqIF rfl rfl rfl (by first | decide | assumption | (simp only [List.cons.injEq]; omega))) rfl ?_ | refine RO.cmpS rfl rfl rfl rfl (fun h => ?_) (fun h => ?_)); all_goals refine RO.nil ?_) | (refine R.region (id := 11) ?_; all_goals (refine RO.q0 rfl (QOk.move rfl) rfl ?_); all_goals (refine RO.q0 rfl (QOk.min2 rfl rfl) rfl ?_); all_goals (refine RO.q0 rfl (QOk.assign rfl) rfl ?_); all_goals refine RO.nil ?_) | (refine R.region (id := 12) ?_; all_goals (refine RO.q0 rfl (QOk.move rfl) rfl ?_); all_goals (refine RO.q0 rfl (QOk.assign rfl) rfl ?_); all_goals (refine RO.q0 rfl (QOk.assign rfl) rfl ?_); all_goals refine RO.nil ?_))
        exact R.ret0 Try.func17 rfl (.tmp rfl (.tmp rfl .nil)) fun _ => ⟨rfl, by rw [hv, hc]; rfl⟩
    · have hil : i < gl.length := by omega
      have hig : i < (goals ws t).length := by omega
      obtain ⟨b1, o1, rfl, hm1⟩ := hsl.at_ i (Gl.cells gl[i]) (by simp [hil])
      have hw : gl[i].w = ((goals ws t)[i]).2 := by
        have := congrArg (·[i]?) hgl.eq
        simp only [List.getElem?_map, List.getElem?_eq_getElem hil, List.getElem?_eq_getElem hig, Option.map_some, Option.some.injEq] at this
        rw [← this]
      have htk : sumw ((goals ws t).take (i + 1)) = sumw ((goals ws t).take i) + gl[i].w := by
        rw [List.take_succ_eq_append_getElem hig, sumw_append, hw]; simp [sumw]
      have hsplit : sumw (goals ws t) = sumw ((goals ws t).take (i + 1)) + sumw ((goals ws t).drop (i + 1)) := by rw [← sumw_append, List.take_append_drop]
      have nn : ∀ l : List (List Int × Int), (∀ x ∈ l, 0 ≤ x.2) → 0 ≤ sumw l := by
        intro l
        induction l with
        | nil => intro _; simp [sumw]
        | cons x l ih => intro h; rw [sumw]; have := h x (List.mem_cons_self ..); have := ih fun y hy => h y (List.mem_cons_of_mem _ hy); omega
      have n1 := nn ((goals ws t).drop (i + 1)) fun x hx => hnn x (List.mem_of_mem_drop hx)
      have n2 := nn ((goals ws t).take i) fun x hx => hnn x (List.mem_of_mem_take hx)
      have n3 : 0 ≤ gl[i].w := by rw [hw]; exact hnn _ (List.getElem_mem hig)
      simp only [whole] at hz hsum
      generalize gl[i] = q at *
      repeat' (first | refine R.seq ?_ | refine R.skip ?_ | refine R.inBlock ?_ | refine R.block ?_ | refine R.condT rfl ?_ | refine R.condF rfl ?_ | refine R.exit rfl ?_ | refine R.label ?_ | (refine R.region (id := 6) ?_; all_goals (first | refine RO.q0 rfl (QOk.cmpT rfl rfl rfl (by first | decide | omega)) rfl ?_ | refine RO.q0 rfl (QOk.cmpF rfl rfl rfl (by first | decide | omega)) rfl ?_ | refine RO.q0 rfl (QOk.strCmp rfl rfl rfl (by first | assumption | rfl)) rfl ?_ | refine RO.q0 rfl (QOk.boolEq rfl rfl) rfl ?_ | refine RO.q0 rfl (QOk.boolNe rfl rfl) rfl ?_ | refine RO.q0 rfl (QOk.sliceNil rfl rfl rfl) rfl ?_ | refine RO.q0 rfl (QOk.sliceNotNil rfl rfl rfl) rfl ?_ | refine RO.q0 rfl (QOk.eqIT rfl rfl rfl (by first | decide | assumption | (simp only [List.cons.injEq]; omega))) rfl ?_ | refine RO.q0 rfl (QOk.eqIF rfl rfl rfl (by first | decide | assumption | (simp only [List.cons.injEq]; omega))) rfl ?_ | refine RO.cmpS rfl rfl rfl rfl (fun h => ?_) (fun h => ?_)); all_goals refine RO.nil ?_) | (refine R.region (id := 7) ?_; all_goals (first | refine RO.q0 rfl (QOk.indexAddrC rfl rfl rfl) rfl ?_ | refine RO.q0 rfl (QOk.indexAddrAC rfl rfl rfl) rfl ?_ | refine RO.q0 rfl (QOk.indexAddr rfl rfl (by omega)) rfl ?_ | refine RO.q0 rfl (QOk.indexAddrA rfl rfl (by omega)) rfl ?_); all_goals (first | refine RO.ld rfl rfl ?_ | refine RO.ldA rfl rfl ?_ | refine RO.ldL rfl rfl (by assumption) ?_ | refine RO.ldLA rfl rfl (by assumption) (by first | rfl | assumption) ?_ | refine RO.ldLW rfl rfl (by assumption) ?_ | refine RO.q0 rfl (QOk.ldM rfl (by assumption)) rfl ?_ | refine RO.q0 rfl (QOk.ldMA rfl (by assumption) (by first | rfl | assumption)) rfl ?_ | refine RO.q0 rfl (QOk.ldMW rfl (by assumption)) rfl ?_ | refine RO.q0 rfl (QOk.ldMWA rfl (by assumption)) rfl ?_ | refine RO.q0 rfl (QOk.ldM0 rfl (by assumption)) rfl ?_ | refine RO.q0 rfl (QOk.ldM0A rfl (by assumption)) rfl ?_ | refine RO.q0 rfl (QOk.loadMem0 rfl (by assumption)) rfl ?_); all_goals (refine RO.ef rfl (OpOk.alloc (fun b => ?_))); all_goals (first | refine RO.ef0 (OpOk.store rfl rfl rfl ?_) | refine RO.ef0 (OpOk.storeL rfl rfl rfl (by assumption) ?_)); all_goals refine RO.nil ?_) | (refine R.region (id := 8) ?_; all_goals (refine RO.q0 rfl (QOk.move rfl) rfl ?_); all_goals (first | refine RO.q0 rfl (QOk.fieldAddr0 rfl rfl) rfl ?_ | refine RO.q0 rfl (QOk.fieldAddrZ rfl rfl) rfl ?_ | refine RO.q0 rfl (QOk.fieldAddr rfl rfl) rfl ?_); all_goals (first | refine RO.ld rfl rfl ?_ | refine RO.ldA rfl rfl ?_ | refine RO.ldL rfl rfl (by assumption) ?_ | refine RO.ldLA rfl rfl (by assumption) (by first | rfl | assumption) ?_ | refine RO.ldLW rfl rfl (by assumption) ?_ | refine RO.q0 rfl (QOk.ldM rfl (by assumption)) rfl ?_ | refine RO.q0 rfl (QOk.ldMA rfl (by assumption) (by first | rfl | assumption)) rfl ?_ | refine RO.q0 rfl (QOk.ldMW rfl (by assumption)) rfl ?_ | refine RO.q0 rfl (QOk.ldMWA rfl (by assumption)) rfl ?_ | refine RO.q0 rfl (QOk.ldM0 rfl (by assumption)) rfl ?_ | refine RO.q0 rfl (QOk.ldM0A rfl (by assumption)) rfl ?_ | refine RO.q0 rfl (QOk.loadMem0 rfl (by assumption)) rfl ?_); all_goals (first | refine RO.q0 rfl (QOk.arith rfl rfl rfl (w64 (by omega))) rfl ?_ | refine RO.q0 rfl (QOk.arith rfl rfl rfl (wu8 (by omega))) rfl ?_ | refine RO.q0 rfl (QOk.arith rfl rfl rfl (wu16 (by omega))) rfl ?_ | refine RO.q0 rfl (QOk.arith rfl rfl rfl (wu32 (by omega))) rfl ?_ | refine RO.q0 rfl (QOk.arith rfl rfl rfl (wu64 (by omega))) rfl ?_); all_goals (refine RO.q0 rfl (QOk.assign rfl) rfl ?_); all_goals refine RO.nil ?_) | (refine R.region (id := 9) ?_; all_goals (first | refine RO.q0 rfl (QOk.arith rfl rfl rfl (w64 (by omega))) rfl ?_ | refine RO.q0 rfl (QOk.arith rfl rfl rfl (wu8 (by omega))) rfl ?_ | refine RO.q0 rfl (QOk.arith rfl rfl rfl (wu16 (by omega))) rfl ?_ | refine RO.q0 rfl (QOk.arith rfl rfl rfl (wu32 (by omega))) rfl ?_ | refine RO.q0 rfl (QOk.arith rfl rfl rfl (wu64 (by omega))) rfl ?_ | refine RO.q0 rfl (QOk.strAdd rfl rfl) rfl ?_); all_goals (refine RO.q0 rfl (QOk.move rfl) rfl ?_); all_goals refine RO.nil ?_))
      refine R.only ?_
      refine R.sub (e' := [(22, .int .i64 _), (21, .int .i64 no), (20, .slice _ no co), (8, .int .i64 _), (6, .slice _ no co)]) (by repeat (first | exact Sub.nil | refine Sub.cons rfl ?_)) ?_
      exact ih (k - 1) _ _ _ (by omega) ⟨rfl, i + 1, _, _, by omega, by omega, by simp only [whole]; omega, rfl, rfl⟩
  · repeat' (first | refine R.seq ?_ | refine R.skip ?_ | refine R.inBlock ?_ | refine R.block ?_ | refine R.condT rfl ?_ | refine R.condF rfl ?_ | refine R.exit rfl ?_ | refine R.label ?_ | (refine R.region (id := 0) ?_; all_goals (refine RO.ef rfl (OpOk.box rfl (fun b => ?_))); all_goals (refine RO.q0 rfl (QOk.assign rfl) rfl ?_); all_goals (refine RO.q0 rfl (QOk.assign rfl) rfl ?_); all_goals refine RO.nil ?_) | (refine R.region (id := 1) ?_; all_goals (first | refine RO.ld rfl rfl ?_ | refine RO.ldA rfl rfl ?_ | refine RO.ldL rfl rfl (by assumption) ?_ | refine RO.ldLA rfl rfl (by assumption) (by first | rfl | assumption) ?_ | refine RO.ldLW rfl rfl (by assumption) ?_ | refine RO.q0 rfl (QOk.ldM rfl (by assumption)) rfl ?_ | refine RO.q0 rfl (QOk.ldMA rfl (by assumption) (by first | rfl | assumption)) rfl ?_ | refine RO.q0 rfl (QOk.ldMW rfl (by assumption)) rfl ?_ | refine RO.q0 rfl (QOk.ldMWA rfl (by assumption)) rfl ?_ | refine RO.q0 rfl (QOk.ldM0 rfl (by assumption)) rfl ?_ | refine RO.q0 rfl (QOk.ldM0A rfl (by assumption)) rfl ?_ | refine RO.q0 rfl (QOk.loadMem0 rfl (by assumption)) rfl ?_); all_goals (refine RO.q0 rfl (QOk.move rfl) rfl ?_); all_goals (first | refine RO.ef rfl (c_goals rfl hr hws hn hel (fun h => absurd hc h) (fun g2 ao no co gl hle _ hsl hgl => have hr := hr.mono hle; have hws := hws.mono hle; ?_)) | refine RO.ef rfl (c_goals rfl hr hws hn hel (fun h g2 hle => ?_) (fun _ _ _ _ _ _ h => absurd h hc))); all_goals (refine RO.q0 rfl (QOk.move rfl) rfl ?_); all_goals (refine RO.q0 rfl (QOk.extract rfl rfl) rfl ?_); all_goals (refine RO.q0 rfl (QOk.extract rfl rfl) rfl ?_); all_goals (refine RO.q0 rfl (QOk.assign rfl) rfl ?_); all_goals (refine RO.q0 rfl (QOk.assign rfl) rfl ?_); all_goals refine RO.nil ?_) | (refine R.region (id := 2) ?_; all_goals (refine RO.q0 rfl (QOk.move rfl) rfl ?_); all_goals (first | refine RO.q0 rfl (QOk.cmpT rfl rfl rfl (by first | decide | omega)) rfl ?_ | refine RO.q0 rfl (QOk.cmpF rfl rfl rfl (by first | decide | omega)) rfl ?_ | refine RO.q0 rfl (QOk.strCmp rfl rfl rfl (by first | assumption | rfl)) rfl ?_ | refine RO.q0 rfl (QOk.boolEq rfl rfl) rfl ?_ | refine RO.q0 rfl (QOk.boolNe rfl rfl) rfl ?_ | refine RO.q0 rfl (QOk.sliceNil rfl rfl rfl) rfl ?_ | refine RO.q0 rfl (QOk.sliceNotNil rfl rfl rfl) rfl ?_ | refine RO.q0 rfl (QOk.eqIT rfl rfl rfl (by first | decide | assumption | (simp only [List.cons.injEq]; omega))) rfl ?_ | refine RO.q0 rfl (QOk.eqIF rfl rfl rfl (by first | decide | assumption | (simp only [List.cons.injEq]; omega))) rfl ?_ | refine RO.cmpS rfl rfl rfl rfl (fun h => ?_) (fun h => ?_)); all_goals refine RO.nil ?_) | (refine R.region (id := 3) ?_; all_goals (refine RO.q0 rfl (QOk.move rfl) rfl ?_); all_goals (refine RO.q0 rfl (QOk.assign rfl) rfl ?_); all_goals (refine RO.q0 rfl (QOk.assign rfl) rfl ?_); all_goals refine RO.nil ?_))
    exact R.ret0 Try.func17 rfl (.tmp rfl (.tmp rfl .nil)) fun _ => ⟨rfl, by rw [if_neg hc]; rfl⟩
section
variable {c : Cx} {g : Img} {D : List Deferred} {ty : TypeId} {e : List (Nat × Value)} {own r : List HProp} {K : Value → List HProp → Img → Prop} {xs : List Operand} {ats : Array TypeId} {fid N : Nat} {F0 : Frag} {g0 : Img} {Post : Value → List HProp → Img → Prop}
theorem c_progress {t : PT} {a : Option Addr} {n cap : Nat} {ws : List Wp} (hx : evs e xs = some [.agg t.h.cells.toArray, .slice a n cap]) (hr : Rep g t) (hws : Places g a n ws) (hn : ws.length ≤ 1000000000000) (hel : ∀ w ∈ ws, w.l.length ≤ 1000000000000)
    (h1 : chk t ws ≠ 0 → ∀ g2, Le g g2 → K (.tuple [.int .i64 0, .int .i64 (chk t ws)].toArray) own g2)
    (h2 : ∀ g2, Le g g2 → chk t ws = 0 → K (.tuple [.int .i64 (prg ws t), .int .i64 0].toArray) own g2) :
    OpOk (fnCx Try.prog fid N F0 g0 Post) D (.call { callee := .value (.func 17), args := xs.toArray, argTypes := ats }) ty e own g K := by
  refine OpOk.callV (f := 17) (fl := []) (cl := []) rfl hx (fun F => progress_ok F g t hr hws hn hel) .nil ?_
  rintro v own' g' hle ⟨rfl, rfl⟩
  by_cases hc : chk t ws = 0
  · rw [if_pos hc, hc]; exact h2 g' hle hc
  · rw [if_neg hc]; exact h1 hc g' hle
end
theorem permille_ok (F : Frag) (g : Img) (t : PT) (hr : Rep g t) {a : Option Addr} {n cap : Nat} {ws : List Wp} (hws : Places g a n ws) (hn : ws.length ≤ 1000000000000) (hel : ∀ w ∈ ws, w.l.length ≤ 1000000000000) :
    Fc Try.prog 18 #[.agg t.h.cells.toArray, .slice a n cap] [] F g (fun v own' _ => own' = [] ∧ v = .tuple [.int .i64 (if chk t ws = 0 then prm ws t else 0), .int .i64 (chk t ws)].toArray) := by
  refine Fc.of_body (args := [_, _]) Try.func18 rfl rfl ?_
  by_cases hc : chk t ws = 0
  · have hm := chk_msr hc
    have hb := prg_b (ws := ws) hm
    simp only [whole] at hb
    repeat' (first | refine R.seq ?_ | refine R.skip ?_ | refine R.inBlock ?_ | refine R.block ?_ | refine R.condT rfl ?_ | refine R.condF rfl ?_ | refine R.exit rfl ?_ | refine R.label ?_ | (refine R.region (id := 0) ?_; all_goals (refine RO.ef rfl (OpOk.box rfl (fun b => ?_))); all_goals (refine RO.q0 rfl (QOk.assign rfl) rfl ?_); all_goals (refine RO.q0 rfl (QOk.assign rfl) rfl ?_); all_goals refine RO.nil ?_) | (refine R.region (id := 1) ?_; all_goals (first | refine RO.ld rfl rfl ?_ | refine RO.ldA rfl rfl ?_ | refine RO.ldL rfl rfl (by assumption) ?_ | refine RO.ldLA rfl rfl (by assumption) (by first | rfl | assumption) ?_ | refine RO.ldLW rfl rfl (by assumption) ?_ | refine RO.q0 rfl (QOk.ldM rfl (by assumption)) rfl ?_ | refine RO.q0 rfl (QOk.ldMA rfl (by assumption) (by first | rfl | assumption)) rfl ?_ | refine RO.q0 rfl (QOk.ldMW rfl (by assumption)) rfl ?_ | refine RO.q0 rfl (QOk.ldMWA rfl (by assumption)) rfl ?_ | refine RO.q0 rfl (QOk.ldM0 rfl (by assumption)) rfl ?_ | refine RO.q0 rfl (QOk.ldM0A rfl (by assumption)) rfl ?_ | refine RO.q0 rfl (QOk.loadMem0 rfl (by assumption)) rfl ?_); all_goals (refine RO.q0 rfl (QOk.move rfl) rfl ?_); all_goals (first | refine RO.ef rfl (c_goals rfl hr hws hn hel (fun h => absurd hc h) (fun g2 ao no co gl hle _ hsl hgl => have hr := hr.mono hle; have hws := hws.mono hle; ?_)) | refine RO.ef rfl (c_goals rfl hr hws hn hel (fun h g2 hle => ?_) (fun _ _ _ _ _ _ h => absurd h hc))); all_goals (refine RO.q0 rfl (QOk.move rfl) rfl ?_); all_goals (refine RO.q0 rfl (QOk.extract rfl rfl) rfl ?_); all_goals (refine RO.q0 rfl (QOk.extract rfl rfl) rfl ?_); all_goals (refine RO.q0 rfl (QOk.assign rfl) rfl ?_); all_goals (refine RO.q0 rfl (QOk.assign rfl) rfl ?_); all_goals refine RO.nil ?_) | (refine R.region (id := 2) ?_; all_goals (refine RO.q0 rfl (QOk.move rfl) rfl ?_); all_goals (first | refine RO.q0 rfl (QOk.cmpT rfl rfl rfl (by first | decide | omega)) rfl ?_ | refine RO.q0 rfl (QOk.cmpF rfl rfl rfl (by first | decide | omega)) rfl ?_ | refine RO.q0 rfl (QOk.strCmp rfl rfl rfl (by first | assumption | rfl)) rfl ?_ | refine RO.q0 rfl (QOk.boolEq rfl rfl) rfl ?_ | refine RO.q0 rfl (QOk.boolNe rfl rfl) rfl ?_ | refine RO.q0 rfl (QOk.sliceNil rfl rfl rfl) rfl ?_ | refine RO.q0 rfl (QOk.sliceNotNil rfl rfl rfl) rfl ?_ | refine RO.q0 rfl (QOk.eqIT rfl rfl rfl (by first | decide | assumption | (simp only [List.cons.injEq]; omega))) rfl ?_ | refine RO.q0 rfl (QOk.eqIF rfl rfl rfl (by first | decide | assumption | (simp only [List.cons.injEq]; omega))) rfl ?_ | refine RO.cmpS rfl rfl rfl rfl (fun h => ?_) (fun h => ?_)); all_goals refine RO.nil ?_))
    have hgl' : no = gl.length := by simpa using hsl.len
    have hgl2 : gl.length = (goals ws t).length := by rw [← hgl.eq, List.length_map]
    by_cases h0 : goals ws t = []
    · have : no = 0 := by rw [hgl', hgl2, h0]; rfl
      repeat' (first | refine R.seq ?_ | refine R.skip ?_ | refine R.inBlock ?_ | refine R.block ?_ | refine R.condT rfl ?_ | refine R.condF rfl ?_ | refine R.exit rfl ?_ | refine R.label ?_ | (refine R.region (id := 4) ?_; all_goals (refine RO.q0 rfl (QOk.move rfl) rfl ?_); all_goals (first | refine RO.q0 rfl (QOk.lenSlice rfl) rfl ?_ | refine RO.q0 rfl (QOk.lenStr rfl) rfl ?_ | refine RO.q0 rfl (QOk.lenArr rfl) rfl ?_); all_goals (first | refine RO.q0 rfl (QOk.cmpT rfl rfl rfl (by first | decide | omega)) rfl ?_ | refine RO.q0 rfl (QOk.cmpF rfl rfl rfl (by first | decide | omega)) rfl ?_ | refine RO.q0 rfl (QOk.strCmp rfl rfl rfl (by first | assumption | rfl)) rfl ?_ | refine RO.q0 rfl (QOk.boolEq rfl rfl) rfl ?_ | refine RO.q0 rfl (QOk.boolNe rfl rfl) rfl ?_ | refine RO.q0 rfl (QOk.sliceNil rfl rfl rfl) rfl ?_ | refine RO.q0 rfl (QOk.sliceNotNil rfl rfl rfl) rfl ?_ | refine RO.q0 rfl (QOk.eqIT rfl rfl rfl (by first | decide | assumption | (simp only [List.cons.injEq]; omega))) rfl ?_ | refine RO.q0 rfl (QOk.eqIF rfl rfl rfl (by first | decide | assumption | (simp only [List.cons.injEq]; omega))) rfl ?_ | refine RO.cmpS rfl rfl rfl rfl (fun h => ?_) (fun h => ?_)); all_goals refine RO.nil ?_) | (refine R.region (id := 5) ?_; all_goals (refine RO.q0 rfl (QOk.assign rfl) rfl ?_); all_goals (refine RO.q0 rfl (QOk.assign rfl) rfl ?_); all_goals refine RO.nil ?_))
      exact R.ret0 Try.func18 rfl (.tmp rfl (.tmp rfl .nil)) fun _ => ⟨rfl, by rw [if_pos hc, prm, if_pos h0, hc]; rfl⟩
    · have : 0 < no := by rw [hgl', hgl2]; exact List.length_pos_iff.2 h0
      repeat' (first | refine R.seq ?_ | refine R.skip ?_ | refine R.inBlock ?_ | refine R.block ?_ | refine R.condT rfl ?_ | refine R.condF rfl ?_ | refine R.exit rfl ?_ | refine R.label ?_ | (refine R.region (id := 4) ?_; all_goals (refine RO.q0 rfl (QOk.move rfl) rfl ?_); all_goals (first | refine RO.q0 rfl (QOk.lenSlice rfl) rfl ?_ | refine RO.q0 rfl (QOk.lenStr rfl) rfl ?_ | refine RO.q0 rfl (QOk.lenArr rfl) rfl ?_); all_goals (first | refine RO.q0 rfl (QOk.cmpT rfl rfl rfl (by first | decide | omega)) rfl ?_ | refine RO.q0 rfl (QOk.cmpF rfl rfl rfl (by first | decide | omega)) rfl ?_ | refine RO.q0 rfl (QOk.strCmp rfl rfl rfl (by first | assumption | rfl)) rfl ?_ | refine RO.q0 rfl (QOk.boolEq rfl rfl) rfl ?_ | refine RO.q0 rfl (QOk.boolNe rfl rfl) rfl ?_ | refine RO.q0 rfl (QOk.sliceNil rfl rfl rfl) rfl ?_ | refine RO.q0 rfl (QOk.sliceNotNil rfl rfl rfl) rfl ?_ | refine RO.q0 rfl (QOk.eqIT rfl rfl rfl (by first | decide | assumption | (simp only [List.cons.injEq]; omega))) rfl ?_ | refine RO.q0 rfl (QOk.eqIF rfl rfl rfl (by first | decide | assumption | (simp only [List.cons.injEq]; omega))) rfl ?_ | refine RO.cmpS rfl rfl rfl rfl (fun h => ?_) (fun h => ?_)); all_goals refine RO.nil ?_) | (refine R.region (id := 6) ?_; all_goals (first | refine RO.ld rfl rfl ?_ | refine RO.ldA rfl rfl ?_ | refine RO.ldL rfl rfl (by assumption) ?_ | refine RO.ldLA rfl rfl (by assumption) (by first | rfl | assumption) ?_ | refine RO.ldLW rfl rfl (by assumption) ?_ | refine RO.q0 rfl (QOk.ldM rfl (by assumption)) rfl ?_ | refine RO.q0 rfl (QOk.ldMA rfl (by assumption) (by first | rfl | assumption)) rfl ?_ | refine RO.q0 rfl (QOk.ldMW rfl (by assumption)) rfl ?_ | refine RO.q0 rfl (QOk.ldMWA rfl (by assumption)) rfl ?_ | refine RO.q0 rfl (QOk.ldM0 rfl (by assumption)) rfl ?_ | refine RO.q0 rfl (QOk.ldM0A rfl (by assumption)) rfl ?_ | refine RO.q0 rfl (QOk.loadMem0 rfl (by assumption)) rfl ?_); all_goals (refine RO.q0 rfl (QOk.move rfl) rfl ?_); all_goals (refine RO.ef rfl (c_progress rfl hr hws hn hel (fun h => absurd hc h) (fun g2 hle _ => ?_))); all_goals (refine RO.q0 rfl (QOk.move rfl) rfl ?_); all_goals (refine RO.q0 rfl (QOk.extract rfl rfl) rfl ?_); all_goals (refine RO.q0 rfl (QOk.extract rfl rfl) rfl ?_); all_goals (refine RO.q0 rfl (QOk.assign rfl) rfl ?_); all_goals (refine RO.q0 rfl (QOk.assign rfl) rfl ?_); all_goals refine RO.nil ?_) | (refine R.region (id := 7) ?_; all_goals (refine RO.q0 rfl (QOk.move rfl) rfl ?_); all_goals (refine RO.q0 rfl (QOk.shrC rfl rfl rfl) rfl ?_); all_goals (refine RO.q0 rfl (QOk.move rfl) rfl ?_); all_goals (first | refine RO.q0 rfl (QOk.andC rfl rfl (.inl rfl) rfl (by omega)) rfl ?_ | refine RO.q0 rfl (QOk.andC rfl rfl (.inr rfl) rfl (by omega)) rfl ?_); all_goals (refine RO.q0 rfl (QOk.assign rfl) rfl ?_); all_goals (refine RO.q0 rfl (QOk.assign rfl) rfl ?_); all_goals refine RO.nil ?_) | (refine R.region (id := 8) ?_; all_goals (refine RO.q0 rfl (QOk.move rfl) rfl ?_); all_goals (first | refine RO.q0 rfl (QOk.arith rfl rfl rfl (w64 (by omega))) rfl ?_ | refine RO.q0 rfl (QOk.arith rfl rfl rfl (wu8 (by omega))) rfl ?_ | refine RO.q0 rfl (QOk.arith rfl rfl rfl (wu16 (by omega))) rfl ?_ | refine RO.q0 rfl (QOk.arith rfl rfl rfl (wu32 (by omega))) rfl ?_ | refine RO.q0 rfl (QOk.arith rfl rfl rfl (wu64 (by omega))) rfl ?_); all_goals (refine RO.q0 rfl (QOk.move rfl) rfl ?_); all_goals (first | refine RO.q0 rfl (QOk.arith rfl rfl rfl (w64 (by omega))) rfl ?_ | refine RO.q0 rfl (QOk.arith rfl rfl rfl (wu8 (by omega))) rfl ?_ | refine RO.q0 rfl (QOk.arith rfl rfl rfl (wu16 (by omega))) rfl ?_ | refine RO.q0 rfl (QOk.arith rfl rfl rfl (wu32 (by omega))) rfl ?_ | refine RO.q0 rfl (QOk.arith rfl rfl rfl (wu64 (by omega))) rfl ?_); all_goals (refine RO.q0 rfl (QOk.shrC rfl rfl rfl) rfl ?_); all_goals (first | refine RO.q0 rfl (QOk.arith rfl rfl rfl (w64 (by omega))) rfl ?_ | refine RO.q0 rfl (QOk.arith rfl rfl rfl (wu8 (by omega))) rfl ?_ | refine RO.q0 rfl (QOk.arith rfl rfl rfl (wu16 (by omega))) rfl ?_ | refine RO.q0 rfl (QOk.arith rfl rfl rfl (wu32 (by omega))) rfl ?_ | refine RO.q0 rfl (QOk.arith rfl rfl rfl (wu64 (by omega))) rfl ?_ | refine RO.q0 rfl (QOk.strAdd rfl rfl) rfl ?_); all_goals (refine RO.q0 rfl (QOk.shrC rfl rfl rfl) rfl ?_); all_goals (refine RO.q0 rfl (QOk.min2 rfl rfl) rfl ?_); all_goals (refine RO.q0 rfl (QOk.assign rfl) rfl ?_); all_goals (refine RO.q0 rfl (QOk.assign rfl) rfl ?_); all_goals refine RO.nil ?_))
      exact R.ret0 Try.func18 rfl (.tmp rfl (.tmp rfl .nil)) fun _ => ⟨rfl, by rw [if_pos hc, prm, if_neg h0, hc]; rfl⟩
  · repeat' (first | refine R.seq ?_ | refine R.skip ?_ | refine R.inBlock ?_ | refine R.block ?_ | refine R.condT rfl ?_ | refine R.condF rfl ?_ | refine R.exit rfl ?_ | refine R.label ?_ | (refine R.region (id := 0) ?_; all_goals (refine RO.ef rfl (OpOk.box rfl (fun b => ?_))); all_goals (refine RO.q0 rfl (QOk.assign rfl) rfl ?_); all_goals (refine RO.q0 rfl (QOk.assign rfl) rfl ?_); all_goals refine RO.nil ?_) | (refine R.region (id := 1) ?_; all_goals (first | refine RO.ld rfl rfl ?_ | refine RO.ldA rfl rfl ?_ | refine RO.ldL rfl rfl (by assumption) ?_ | refine RO.ldLA rfl rfl (by assumption) (by first | rfl | assumption) ?_ | refine RO.ldLW rfl rfl (by assumption) ?_ | refine RO.q0 rfl (QOk.ldM rfl (by assumption)) rfl ?_ | refine RO.q0 rfl (QOk.ldMA rfl (by assumption) (by first | rfl | assumption)) rfl ?_ | refine RO.q0 rfl (QOk.ldMW rfl (by assumption)) rfl ?_ | refine RO.q0 rfl (QOk.ldMWA rfl (by assumption)) rfl ?_ | refine RO.q0 rfl (QOk.ldM0 rfl (by assumption)) rfl ?_ | refine RO.q0 rfl (QOk.ldM0A rfl (by assumption)) rfl ?_ | refine RO.q0 rfl (QOk.loadMem0 rfl (by assumption)) rfl ?_); all_goals (refine RO.q0 rfl (QOk.move rfl) rfl ?_); all_goals (first | refine RO.ef rfl (c_goals rfl hr hws hn hel (fun h => absurd hc h) (fun g2 ao no co gl hle _ hsl hgl => have hr := hr.mono hle; have hws := hws.mono hle; ?_)) | refine RO.ef rfl (c_goals rfl hr hws hn hel (fun h g2 hle => ?_) (fun _ _ _ _ _ _ h => absurd h hc))); all_goals (refine RO.q0 rfl (QOk.move rfl) rfl ?_); all_goals (refine RO.q0 rfl (QOk.extract rfl rfl) rfl ?_); all_goals (refine RO.q0 rfl (QOk.extract rfl rfl) rfl ?_); all_goals (refine RO.q0 rfl (QOk.assign rfl) rfl ?_); all_goals (refine RO.q0 rfl (QOk.assign rfl) rfl ?_); all_goals refine RO.nil ?_) | (refine R.region (id := 2) ?_; all_goals (refine RO.q0 rfl (QOk.move rfl) rfl ?_); all_goals (first | refine RO.q0 rfl (QOk.cmpT rfl rfl rfl (by first | decide | omega)) rfl ?_ | refine RO.q0 rfl (QOk.cmpF rfl rfl rfl (by first | decide | omega)) rfl ?_ | refine RO.q0 rfl (QOk.strCmp rfl rfl rfl (by first | assumption | rfl)) rfl ?_ | refine RO.q0 rfl (QOk.boolEq rfl rfl) rfl ?_ | refine RO.q0 rfl (QOk.boolNe rfl rfl) rfl ?_ | refine RO.q0 rfl (QOk.sliceNil rfl rfl rfl) rfl ?_ | refine RO.q0 rfl (QOk.sliceNotNil rfl rfl rfl) rfl ?_ | refine RO.q0 rfl (QOk.eqIT rfl rfl rfl (by first | decide | assumption | (simp only [List.cons.injEq]; omega))) rfl ?_ | refine RO.q0 rfl (QOk.eqIF rfl rfl rfl (by first | decide | assumption | (simp only [List.cons.injEq]; omega))) rfl ?_ | refine RO.cmpS rfl rfl rfl rfl (fun h => ?_) (fun h => ?_)); all_goals refine RO.nil ?_) | (refine R.region (id := 3) ?_; all_goals (refine RO.q0 rfl (QOk.move rfl) rfl ?_); all_goals (refine RO.q0 rfl (QOk.assign rfl) rfl ?_); all_goals (refine RO.q0 rfl (QOk.assign rfl) rfl ?_); all_goals refine RO.nil ?_))
    exact R.ret0 Try.func18 rfl (.tmp rfl (.tmp rfl .nil)) fun _ => ⟨rfl, by rw [if_neg hc]; rfl⟩
end Go.Proofs.Ytbdnfllpdlbboaa
