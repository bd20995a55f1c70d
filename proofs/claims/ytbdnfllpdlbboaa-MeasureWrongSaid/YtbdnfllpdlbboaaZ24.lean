import Derived.Test.YtbdnfllpdlbboaaZ21
namespace Go.Proofs.Ytbdnfllpdlbboaa
open Go Go.Zed
set_option maxRecDepth 10000
set_option maxHeartbeats 4000000
/-! ### Contracts -/
theorem prg_L (ws : List Wp) (t : PT) : prg ws t = leftw (goals ws t) := by
  rw [prg, leftw]
  by_cases h : goals ws t = []
  · rw [if_pos h, if_pos h, h]; simp [sumw]
  · rw [if_neg h, if_neg h]
def prmL (l : List (List Int × Int)) : Int := if l = [] then 1000 else min ((1000 * (leftw l / 1073741824) + 1000 * (leftw l % 1073741824) / 1073741824) / 1073741824) 999
theorem prm_L (ws : List Wp) (t : PT) : prm ws t = prmL (goals ws t) := by rw [prm, prmL, prg_L]
def stF (l : List Fl) : Nat := (l.filter fun s => !isQ s.r).length
theorem stF_append (a b : List Fl) : stF (a ++ b) = stF a + stF b := by rw [stF, stF, stF, List.filter_append, List.length_append]
theorem stps_F (t : PT) : stps [] t = stF (fl (fun _ => false) [] whole t.st) := by
  rw [stps, stpsOf, stF, ← steps_fl, List.filter_map, List.length_map]
  have e : (fun s => !isGoal [] s) = (fun s : Fl => !isQ s.r) ∘ fun s : Stp => s.s.fl := by
    funext ⟨pl, w, ⟨h, sub⟩⟩
    simp only [isGoal, skipW_nil, Bool.or_false, Function.comp, StS.fl, Stp.s, PT.st]
  rw [e, skipW_none]
section
variable {c : Cx} {g : Img} {D : List Deferred} {ty : TypeId} {e : List (Nat × Value)} {own r : List HProp} {K : Value → List HProp → Img → Prop} {xs : List Operand} {ats : Array TypeId} {fid N : Nat} {F0 : Frag} {g0 : Img} {Post : Value → List HProp → Img → Prop}
theorem c_progressD {t : PT} {p : Pf} (hx : evs e xs = some [.agg t.h.cells.toArray, .slice none 0 0]) (h : Dp g t p) (hm : msrS (pfS p) = true)
    (hK : ∀ g2, Le g g2 → K (.tuple [.int .i64 (leftw (gls [] (pfS p))), .int .i64 0].toArray) own g2) :
    OpOk (fnCx Try.prog fid N F0 g0 Post) D (.call { callee := .value (.func 17), args := xs.toArray, argTypes := ats }) ty e own g K := by
  refine c_progress (ws := []) hx h.rep pl_nil (by simp) (by simp) (fun h2 => absurd (chk_D h hm) h2) fun g2 hle _ => ?_
  rw [prg_L, goals_gls, h.st]
  exact hK g2 hle
theorem c_permilleD {t : PT} {p : Pf} (hx : evs e xs = some [.agg t.h.cells.toArray, .slice none 0 0]) (h : Dp g t p) (hm : msrS (pfS p) = true)
    (hK : ∀ g2, Le g g2 → K (.tuple [.int .i64 (prmL (gls [] (pfS p))), .int .i64 0].toArray) own g2) :
    OpOk (fnCx Try.prog fid N F0 g0 Post) D (.call { callee := .value (.func 18), args := xs.toArray, argTypes := ats }) ty e own g K := by
  refine c_permille (ws := []) hx h.rep pl_nil (by simp) (by simp) (chk_D h hm) fun g2 hle => ?_
  rw [prm_L, goals_gls, h.st]
  exact hK g2 hle
theorem c_stepsD {t : PT} {p : Pf} (hx : evs e xs = some [.agg t.h.cells.toArray, .slice none 0 0]) (h : Dp g t p) (hm : msrS (pfS p) = true)
    (hK : ∀ g2, Le g g2 → K (.tuple [.int .i64 (stF (fl (fun _ => false) [] whole (pfS p)) : Int), .int .i64 0].toArray) own g2) :
    OpOk (fnCx Try.prog fid N F0 g0 Post) D (.call { callee := .value (.func 16), args := xs.toArray, argTypes := ats }) ty e own g K := by
  refine c_steps (ws := []) hx h.rep pl_nil (by simp) (by simp) fun g2 hle => ?_
  rw [chk_D h hm, if_pos rfl, stps_F, h.st]
  exact hK g2 hle
theorem c_pick {ao : Option Addr} {no co : Nat} {gl : List Gl} {m : Int} (hx : evs e xs = some [.slice ao no co, .int .u8 m]) (hsl : Sl g 2 ao no (gl.map Gl.cells)) (hlen : gl.length ≤ 1000000) (hm : 0 ≤ m ∧ m ≤ 255)
    (h1 : gl = [] → K (.tuple [.agg zGl.cells.toArray, .bool false].toArray) own g) (h2 : ∀ (i : Nat) (x : Gl), gl[i]? = some x → K (.tuple [.agg x.cells.toArray, .bool true].toArray) own g) :
    OpOk (fnCx Try.prog fid N F0 g0 Post) D (.call { callee := .value (.func 34), args := xs.toArray, argTypes := ats }) ty e own g K := by
  refine OpOk.callV (f := 34) (fl := []) (cl := []) rfl hx (fun F => pick_ok F g hsl hlen hm) .nil ?_
  rintro v own' g' _ ⟨rfl, rfl, ⟨h, rfl⟩ | ⟨i, x, h, rfl⟩⟩
  · exact h1 h
  · exact h2 i x h
end
/-! ### A step with holes, put at a goal -/
@[reducible] def holeS : ST := .mk { data := #[63] } 0 []
theorem pfS_hole : pfS holePf = holeS := by rw [pfS, pfSs]
def holesF (pl : List Int) (w i : Int) : Nat → List Fl
  | 0 => []
  | k + 1 => ⟨pl ++ [i], w, { data := #[63] }, 0⟩ :: holesF pl w (i + 1) k
theorem flL_holes (skip : List Int → Bool) (pl : List Int) (w : Int) : ∀ (k : Nat) (i : Int), flL skip pl w i (List.replicate k holeS) = holesF pl w i k
  | 0, i => by rw [List.replicate_zero, flL, holesF]
  | k + 1, i => by rw [List.replicate_succ, flL, fl_leaf rfl, holesF, flL_holes skip pl w k]; rfl
theorem holesF_len (pl : List Int) (w : Int) : ∀ (k : Nat) (i : Int), (holesF pl w i k).length = k
  | 0, i => by rw [holesF]; rfl
  | k + 1, i => by rw [holesF, List.length_cons, holesF_len pl w k]
theorem isQ_q : isQ { data := #[63] } = true := by decide +kernel
theorem isQ_r : isQ { data := #[114] } = false := by decide +kernel
theorem holesF_good {pl : List Int} {w : Int} (hp : pl.length < 40) : ∀ (k : Nat) (i : Int), ∀ s ∈ holesF pl w i k, goodF s = true
  | 0, i, s, h => by rw [holesF] at h; cases h
  | k + 1, i, s, h => by
    rw [holesF, List.mem_cons] at h
    rcases h with rfl | h
    · rw [goodF_iff]; simp; omega
    · exact holesF_good hp k _ s h
theorem holesF_goals (pl : List Int) (w : Int) : ∀ (k : Nat) (i : Int), (goalsF [] (holesF pl w i k)).length = k ∧ sumw (goalsF [] (holesF pl w i k)) = k * w ∧ ∀ x ∈ goalsF [] (holesF pl w i k), x.2 = w
  | 0, i => by simp [holesF, goalsF, sumw]
  | k + 1, i => by
    obtain ⟨h1, h2, h3⟩ := holesF_goals pl w k (i + 1)
    have e : goalsF [] (holesF pl w i (k + 1)) = (pl ++ [i], w) :: goalsF [] (holesF pl w (i + 1) k) := by
      rw [holesF]; simp [goalsF, isQ_q]
    rw [e]
    refine ⟨by rw [List.length_cons, h1], by rw [sumw, h2]; push_cast; rw [Int.add_mul]; omega, fun x hx => ?_⟩
    rcases List.mem_cons.1 hx with rfl | hx
    · rfl
    · exact h3 x hx
theorem holesF_st (pl : List Int) (w : Int) : ∀ (k : Nat) (i : Int), stF (holesF pl w i k) = 0
  | 0, i => by rw [holesF]; rfl
  | k + 1, i => by
    have := holesF_st pl w k (i + 1)
    rw [holesF]
    simp only [stF] at this ⊢
    simp [isQ_q, this]
@[reducible] def stepPf (k : Nat) : Pf := plPf { data := #[114] } 0 (List.replicate k holePf)
theorem pfS_step (k : Nat) : pfS (stepPf k) = .mk { data := #[114] } 0 (List.replicate k holeS) := by
  rw [pfS, pfSs_map, List.map_replicate, pfS_hole]
theorem fl_step (skip : List Int → Bool) (pl : List Int) (w : Int) (k : Nat) (h : skip pl = false) : fl skip pl w (pfS (stepPf k)) = ⟨pl, w, { data := #[114] }, k⟩ :: holesF pl (w / (2 * k)) 0 k := by
  rw [pfS_step, fl, h, List.length_replicate, flL_holes]; rfl
/-- What a step with k premises at a goal does. -/
structure Grw (p : Pf) (l : List Int) (w : Int) (k : Nat) : Prop where
  we : withE p l (stepPf k) = 0
  msr : msrS (pfS (withV p l (stepPf k))) = true
  len : (gls [] (pfS (withV p l (stepPf k)))).length + 1 = (gls [] (pfS p)).length + k
  sum : sumw (gls [] (pfS (withV p l (stepPf k)))) = sumw (gls [] (pfS p)) - w + k * (w / (2 * k))
  st : stF (fl (fun _ => false) [] whole (pfS (withV p l (stepPf k)))) = stF (fl (fun _ => false) [] whole (pfS p)) + 1
  nn : 0 ≤ w ∧ w ≤ sumw (gls [] (pfS p)) ∧ 0 ≤ (k : Int) * (w / (2 * k)) ∧ 2 * ((k : Int) * (w / (2 * k))) ≤ w
theorem leaf_nn {w : Int} {k : Nat} (hw : 0 ≤ w) : 0 ≤ (k : Int) * (w / (2 * k)) ∧ 2 * ((k : Int) * (w / (2 * k))) ≤ w := by
  have h0 := Int.ediv_nonneg hw (show (0 : Int) ≤ 2 * k by omega)
  refine ⟨Int.mul_nonneg (by omega) h0, ?_⟩
  have := Int.ediv_mul_le w (b := 2 * (k : Int))
  rcases Nat.eq_zero_or_pos k with rfl | hk
  · simp; omega
  · have := this (by omega)
    rw [← Int.mul_assoc, Int.mul_comm (2 * (k : Int))]; exact this
theorem sumw_app : ∀ (a b : List (List Int × Int)), sumw (a ++ b) = sumw a + sumw b := fun a b => by rw [sumw_append]
theorem Grw.of {g : Img} {t : PT} {p : Pf} (hd : Dp g t p) (hb : BtP p) {x : List Int × Int} (hx : x ∈ gls [] (pfS p)) {k : Nat} (hk : k ≤ 8) : Grw p x.1 x.2 k := by
  obtain ⟨q, h1, h2, h3, h4⟩ := gls_at hb.msr hx
  have hdeep := hb.deep h1
  obtain ⟨pre, post, k1, k2⟩ := splice sk40 x.1 (pfS p) [] whole q h1 (sk40_pre (by omega))
  have hm : msrS (pfS (setPf p x.1 (stepPf k))) = true := by
    have e0 := k1 q
    rw [k2, fl_leaf h3] at e0
    have e1 := k1 (pfS (stepPf k))
    rw [setS_pf, fl_step _ _ _ _ (by rw [sk40, List.nil_append, decide_eq_false]; omega), List.nil_append] at e1
    have hn := hb.nds
    have hg := (msrS_iff.1 hb.msr).2
    rw [e0] at hn hg
    rw [msrS_iff, e1]
    refine ⟨?_, fun s hs => ?_⟩
    · simp only [List.length_append, List.length_cons, List.length_nil, holesF_len] at hn ⊢
      omega
    · simp only [List.mem_append, List.mem_cons] at hs
      rcases hs with hs | (rfl | hs) | hs
      · exact hg s (List.mem_append_left _ hs)
      · rw [goodF_iff]; simp [isQ_r]; omega
      · exact holesF_good (by omega) k 0 s hs
      · exact hg s (List.mem_append_right _ (List.mem_append_right _ hs))
  obtain ⟨q', a1, _⟩ := gls_pf hb.msr hx
  have hE : withE p x.1 (stepPf k) = 0 := by rw [withE_cases hb.msr a1, hm]; rfl
  have hV := (withE_0 hE).1
  obtain ⟨gp, gq, e1, e2⟩ := gls_set hb.msr hx
  have e3 := e2 (pfS (stepPf k))
  rw [setS_pf, fl_step _ _ _ _ rfl] at e3
  have e4 : goalsF [] (⟨x.1, x.2, { data := #[114] }, k⟩ :: holesF x.1 (x.2 / (2 * k)) 0 k) = goalsF [] (holesF x.1 (x.2 / (2 * k)) 0 k) := by
    simp [goalsF, isQ_r, skipW_nil]
  rw [e4] at e3
  obtain ⟨f1, f2, f3⟩ := holesF_goals x.1 (x.2 / (2 * k)) k 0
  have hGB : GB (gls [] (pfS p)) := by rw [← hd.st, ← goals_gls]; exact GB.goals (by rw [msr_st, hd.st]; exact hb.msr)
  have hw0 := hGB.nn x hx
  refine ⟨hE, by rw [hV]; exact hm, ?_, ?_, ?_, hw0, ?_, leaf_nn hw0⟩
  · rw [hV, e3, e1]; simp only [List.length_append, List.length_cons, f1]; omega
  · rw [hV, e3, e1, sumw_app, sumw_app, sumw_app, sumw, f2]; omega
  · obtain ⟨pre, post, k1, k2⟩ := splice (fun _ => false) x.1 (pfS p) [] whole q h1 fun _ _ _ => rfl
    have e0 := k1 q
    rw [k2, fl_leaf h3] at e0
    have e1 := k1 (pfS (stepPf k))
    rw [setS_pf, fl_step _ _ _ _ rfl] at e1
    rw [hV, e1, e0, stF_append, stF_append, stF_append, stF_append, ← List.singleton_append, stF_append, holesF_st]
    have r1 : stF [⟨[] ++ x.1, wAtS (pfS p) whole x.1, { data := #[114] }, k⟩] = 1 := by simp [stF, isQ_r]
    have r2 : stF [⟨[] ++ x.1, wAtS (pfS p) whole x.1, q.r, 0⟩] = 0 := by simp [stF, h2]
    rw [r1, r2]; omega
  · rw [e1, sumw_app, sumw]
    have n1 := sumw_nonneg gp fun y hy => hGB.nn y (by rw [e1]; exact List.mem_append_left _ hy)
    have n2 := sumw_nonneg gq fun y hy => hGB.nn y (by rw [e1]; exact List.mem_append_right _ (List.mem_cons_of_mem _ hy))
    omega
theorem GB.D {g : Img} {t : PT} {p : Pf} (hd : Dp g t p) (hm : msrS (pfS p) = true) : GB (gls [] (pfS p)) := by
  rw [← hd.st, ← goals_gls]; exact GB.goals (by rw [msr_st, hd.st]; exact hm)
/-- Progress grows. -/
theorem left_grows {a b : List (List Int × Int)} {w z : Int} (ha : GB a) (hne : a ≠ []) (hb : 0 ≤ sumw b) (hsum : sumw b = sumw a - w + z) (hz : 0 ≤ z ∧ 2 * z ≤ w) (hw : 0 ≤ w ∧ w ≤ sumw a) :
    leftw a ≤ leftw b ∧ (leftw b > leftw a ∨ (leftw b ≤ leftw a ∧ w ≤ 1)) ∧ 0 ≤ leftw a ∧ leftw a ≤ whole ∧ leftw b ≤ whole := by
  have h1 := ha.sum
  rw [leftw, leftw, if_neg hne]
  simp only [whole]
  by_cases h : b = []
  · rw [if_pos h]; omega
  · rw [if_neg h]; omega
theorem prm_mono {a b : Int} (h0 : 0 ≤ a) (h : a ≤ b) : (1000 * (a / 1073741824) + 1000 * (a % 1073741824) / 1073741824) / 1073741824 ≤ (1000 * (b / 1073741824) + 1000 * (b % 1073741824) / 1073741824) / 1073741824 := by
  have e : ∀ n : Int, 0 ≤ n → 1000 * (n / 1073741824) + 1000 * (n % 1073741824) / 1073741824 = 1000 * n / 1073741824 := fun n hn => by omega
  rw [e a h0, e b (by omega)]
  omega
theorem prm_grows {a b : List (List Int × Int)} (hne : a ≠ []) (h0 : 0 ≤ leftw a) (h : leftw a ≤ leftw b) : prmL a ≤ prmL b ∧ prmL a < 1000 ∧ (prmL b = 1000 ↔ b = []) := by
  have := prm_mono h0 h
  rw [prmL, prmL, if_neg hne]
  generalize (1000 * (leftw a / 1073741824) + 1000 * (leftw a % 1073741824) / 1073741824) / 1073741824 = u at *
  generalize (1000 * (leftw b / 1073741824) + 1000 * (leftw b % 1073741824) / 1073741824) / 1073741824 = v at *
  by_cases hb : b = []
  · rw [if_pos hb]; exact ⟨by omega, by omega, by simp [hb]⟩
  · rw [if_neg hb]; exact ⟨by omega, by omega, ⟨fun h => by omega, fun h => absurd h hb⟩⟩
end Go.Proofs.Ytbdnfllpdlbboaa
