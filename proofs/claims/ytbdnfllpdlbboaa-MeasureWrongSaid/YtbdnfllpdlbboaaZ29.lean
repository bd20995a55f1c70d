import Derived.Test.YtbdnfllpdlbboaaZ24
namespace Go.Proofs.Ytbdnfllpdlbboaa
open Go Go.Zed
set_option maxRecDepth 10000
set_option maxHeartbeats 4000000
/-! ### Wrong steps: a proof that is cut -/
def gK (skip : List Int → Bool) (l : List Fl) : List (List Int × Int) := (l.filter fun s => isQ s.r || skip s.place).map fun s => (s.place, s.w)
theorem gK_append (skip : List Int → Bool) (a b : List Fl) : gK skip (a ++ b) = gK skip a ++ gK skip b := by rw [gK, gK, gK, List.filter_append, List.map_append]
theorem gK_congr {skip skip' : List Int → Bool} {l : List Fl} (h : ∀ s ∈ l, skip s.place = skip' s.place) : gK skip l = gK skip' l := by
  rw [gK, gK, List.filter_congr fun s hs => by rw [h s hs]]
def skipL (ls : List (List Int)) (x : List Int) : Bool := ls.any fun l => decide (x = l)
def glsL (ls : List (List Int)) (t : ST) : List (List Int × Int) := gK (skipL ls) (fl (skipL ls) [] whole t)
theorem skipW_L (ws : List Wp) : skipW ws = skipL (ws.map (·.l)) := by
  funext x; rw [skipW, skipL, List.any_map]; rfl
theorem gls_L (ws : List Wp) (t : ST) : gls ws t = glsL (ws.map (·.l)) t := by
  rw [gls, glsL, ← skipW_L]; rfl
@[reducible] def sk2 (skip : List Int → Bool) (m : List Int) : List Int → Bool := fun x => skip x || decide (x = m)
theorem sk2_ne {skip : List Int → Bool} {m x : List Int} (h : x ≠ m) : sk2 skip m x = skip x := by simp [sk2, h]
theorem gcut (skip : List Int → Bool) : ∀ (l : List Int) (t q : ST) (pl : List Int) (w : Int), atS t l = some q → gK skip (fl skip pl w (setS t l holeS)) = gK (sk2 skip (pl ++ l)) (fl (sk2 skip (pl ++ l)) pl w t)
  | [], .mk r lab sub, q, pl, w, _ => by
    rw [setS, fl_leaf rfl, List.append_nil, fl]
    have h1 : sk2 skip pl pl = true := by simp [sk2]
    rw [h1, if_pos rfl]
    simp [gK, isQ_q, h1]
  | i :: is, .mk r lab sub, q, pl, w, h => by
    obtain ⟨h0, s, h1, h2⟩ := atS_cons h
    have hi : i.toNat < sub.length := (List.getElem?_eq_some_iff.1 h1).1
    have hpl : sk2 skip (pl ++ i :: is) pl = skip pl := sk2_ne fun h => by
      have := congrArg List.length h
      simp at this
    rw [setS_go h1, fl, fl, hpl, List.length_set]
    by_cases hs : skip pl = true
    · rw [if_pos hs, if_pos hs]
      exact gK_congr fun s hs => by
        obtain rfl := List.mem_singleton.1 hs
        exact hpl.symm
    · rw [if_neg hs, if_neg hs, set_split h1]
      conv => rhs; rw [split_at h1]
      rw [flL_append, flL_append, flL, flL, List.length_take, Nat.min_eq_left (by omega), show (0 : Int) + (i.toNat : Int) = i by omega]
      have ih := gcut skip is s q (pl ++ [i]) (w / (2 * sub.length)) h2
      rw [List.append_assoc, List.singleton_append] at ih
      have e1 : flL skip pl (w / (2 * sub.length)) 0 (sub.take i.toNat) = flL (sk2 skip (pl ++ i :: is)) pl (w / (2 * sub.length)) 0 (sub.take i.toNat) := flL_congr _ pl _ 0 fun j u rel hj _ => by
        refine (sk2_ne fun h => ?_).symm
        have hj2 : j < (sub.take i.toNat).length := (List.getElem?_eq_some_iff.1 hj).1
        rw [List.length_take] at hj2
        have := (List.cons.inj (List.append_cancel_left h)).1
        omega
      have e2 : flL skip pl (w / (2 * sub.length)) (i + 1) (sub.drop (i.toNat + 1)) = flL (sk2 skip (pl ++ i :: is)) pl (w / (2 * sub.length)) (i + 1) (sub.drop (i.toNat + 1)) := flL_congr _ pl _ (i + 1) fun j u rel hj _ => by
        refine (sk2_ne fun h => ?_).symm
        have := (List.cons.inj (List.append_cancel_left h)).1
        omega
      have c0 : gK skip [⟨pl, w, r, sub.length⟩] = gK (sk2 skip (pl ++ i :: is)) [⟨pl, w, r, sub.length⟩] := gK_congr fun s hs => by
        obtain rfl := List.mem_singleton.1 hs
        exact hpl.symm
      have c1 : gK skip (flL skip pl (w / (2 * sub.length)) 0 (sub.take i.toNat)) = gK (sk2 skip (pl ++ i :: is)) (flL skip pl (w / (2 * sub.length)) 0 (sub.take i.toNat)) := gK_congr fun s hs => by
        obtain ⟨j, rel, u, q, k1, k2, _⟩ := flL_at _ _ _ _ _ s hs
        refine (sk2_ne fun h => ?_).symm
        have hj2 : j < (sub.take i.toNat).length := (List.getElem?_eq_some_iff.1 k2).1
        rw [List.length_take] at hj2
        rw [k1] at h
        have := (List.cons.inj (List.append_cancel_left h)).1
        omega
      have c2 : gK skip (flL skip pl (w / (2 * sub.length)) (i + 1) (sub.drop (i.toNat + 1))) = gK (sk2 skip (pl ++ i :: is)) (flL skip pl (w / (2 * sub.length)) (i + 1) (sub.drop (i.toNat + 1))) := gK_congr fun s hs => by
        obtain ⟨j, rel, u, q, k1, k2, _⟩ := flL_at _ _ _ _ _ s hs
        refine (sk2_ne fun h => ?_).symm
        rw [k1] at h
        have := (List.cons.inj (List.append_cancel_left h)).1
        omega
      rw [← List.singleton_append, ← List.singleton_append (l := flL (sk2 skip (pl ++ i :: is)) _ _ _ _ ++ _), gK_append, gK_append, gK_append, gK_append, gK_append, gK_append, ih, c0, c1, c2, e1, e2, ← split_at h1]
theorem gnone (skip : List Int → Bool) {l : List Int} {t : ST} (pl : List Int) (w : Int) (h : atS t l = none) : gK skip (fl skip pl w t) = gK (sk2 skip (pl ++ l)) (fl (sk2 skip (pl ++ l)) pl w t) := by
  have hne : ∀ rel, atS t rel ≠ none → pl ++ rel ≠ pl ++ l := fun rel hr he => by
    rw [List.append_cancel_left he] at hr
    exact hr h
  rw [← fl_congr (skip := skip) (skip' := sk2 skip (pl ++ l)) t pl w fun rel hr => (sk2_ne (hne rel hr)).symm]
  refine gK_congr fun s hs => ?_
  obtain ⟨rel, q, k1, k2, _⟩ := fl_at _ _ _ _ s hs
  rw [k1, sk2_ne (hne rel (by rw [k2]; simp))]
/-- The proof in which the wrong steps are holes. -/
def cutP : List (List Int) → Pf → Pf
  | [], p => p
  | l :: ls, p => cutP ls (if (atPf p l).isSome then setPf p l holePf else p)
theorem cut_gls : ∀ (ls : List (List Int)) (p : Pf) (extra : List (List Int)), glsL extra (pfS (cutP ls p)) = glsL (ls ++ extra) (pfS p)
  | [], p, extra => by rw [cutP, List.nil_append]
  | l :: ls, p, extra => by
    rw [cutP, cut_gls ls _ extra]
    have hsk : skipL (l :: ls ++ extra) = sk2 (skipL (ls ++ extra)) ([] ++ l) := by
      funext x; rw [List.cons_append, skipL, List.any_cons, List.nil_append, Bool.or_comm]; rfl
    cases h : atPf p l with
    | none =>
      rw [Option.isSome_none, if_neg (by simp), glsL, glsL, hsk]
      exact gnone _ [] whole (by rw [atS_pf, h]; rfl)
    | some q =>
      rw [Option.isSome_some, if_pos rfl, glsL, glsL, hsk, ← setS_pf, pfS_hole]
      exact gcut _ l (pfS p) (pfS q) [] whole (by rw [atS_pf, h]; rfl)
theorem cutP_append : ∀ (a b : List (List Int)) (p : Pf), cutP (a ++ b) p = cutP b (cutP a p)
  | [], b, p => by rw [List.nil_append, cutP]
  | l :: a, b, p => by rw [List.cons_append, cutP, cutP, cutP_append a b]
theorem msr_cut {t q : ST} {l : List Int} (hm : msrS t = true) (h : atS t l = some q) : msrS (setS t l holeS) = true := by
  have hl := (msr_at hm h).1
  obtain ⟨pre, post, k1, k2⟩ := splice sk40 l t [] whole q h (sk40_pre (by omega))
  have e := k1 q
  obtain ⟨rest, hh⟩ := fl_head sk40 ([] ++ l) (wAtS t whole l) q
  rw [k2, hh] at e
  obtain ⟨h1, h2⟩ := msrS_iff.1 hm
  rw [e] at h1 h2
  rw [msrS_iff, k1 holeS, fl_leaf rfl]
  refine ⟨?_, fun s hs => ?_⟩
  · simp only [List.length_append, List.length_cons, List.length_nil] at h1 ⊢; omega
  · simp only [List.mem_append, List.mem_singleton] at hs
    rcases hs with hs | rfl | hs
    · exact h2 s (List.mem_append_left _ hs)
    · rw [goodF_iff]; simp; omega
    · exact h2 s (List.mem_append_right _ (List.mem_append_right _ hs))
theorem cut_step {p : Pf} {l : List Int} (hm : msrS (pfS p) = true) : (withE p l holePf = 0 ∧ withV p l holePf = cutP [l] p ∧ msrS (pfS (cutP [l] p)) = true) ∨ (withE p l holePf = 6 ∧ cutP [l] p = p) := by
  rw [cutP, cutP]
  cases h : atPf p l with
  | none => right; rw [withE, hm, h]; exact ⟨rfl, rfl⟩
  | some q =>
    left
    have hc : msrS (pfS (setPf p l holePf)) = true := by rw [← setS_pf, pfS_hole]; exact msr_cut hm (q := pfS q) (by rw [atS_pf, h]; rfl)
    have hE : withE p l holePf = 0 := by rw [withE_cases hm h, hc]; rfl
    exact ⟨hE, (withE_0 hE).1, hc⟩
/-! ### More wrong steps never add progress -/
mutual
theorem gmono {ws ws2 : List Wp} (hsub : ∀ x, skipW ws x = true → skipW ws2 x = true) : ∀ (t : PT) (pl : List Int) (w : Int), HoleOk t → 0 ≤ w →
    sumw (goalsOf ws (steps (skipW ws) pl w t)) ≤ sumw (goalsOf ws2 (steps (skipW ws2) pl w t)) ∧ (goalsOf ws2 (steps (skipW ws2) pl w t) = [] → goalsOf ws (steps (skipW ws) pl w t) = [])
  | .mk h sub, pl, w, ho, hw => by
    have hle := sumw_le ws (.mk h sub) pl w ho hw
    have e1 : ∀ ws, steps (skipW ws) pl w (.mk h sub) = [⟨pl, w, .mk h sub⟩] ++ (if skipW ws pl then [] else stepsL (skipW ws) pl (w / (2 * sub.length)) 0 sub) := fun ws => by rw [steps]; rfl
    by_cases h2 : skipW ws2 pl = true
    · have hg : isGoal ws2 ⟨pl, w, .mk h sub⟩ = true := by rw [isGoal, h2, Bool.or_true]
      rw [e1 ws2, if_pos h2]
      have e2 : goalsOf ws2 ([⟨pl, w, .mk h sub⟩] ++ []) = [(pl, w)] := by simp [goalsOf, hg]
      rw [e2]
      refine ⟨by simp only [sumw]; omega, fun h => by cases h⟩
    · have h1 : ¬ skipW ws pl = true := fun h => h2 (hsub _ h)
      rw [e1 ws, e1 ws2, if_neg h1, if_neg h2]
      obtain ⟨hq, hsubs⟩ := ho
      have hh : isGoal ws ⟨pl, w, .mk h sub⟩ = isGoal ws2 ⟨pl, w, .mk h sub⟩ := by
        have a1 : skipW ws pl = false := by simpa using h1
        have a2 : skipW ws2 pl = false := by simpa using h2
        rw [isGoal, isGoal, a1, a2]
      have hL := gmonoL hsub sub pl (w / (2 * sub.length)) 0 hsubs (Int.ediv_nonneg hw (by omega))
      rw [goalsOf_append, goalsOf_append, sumw_append, sumw_append]
      have e3 : goalsOf ws [⟨pl, w, .mk h sub⟩] = goalsOf ws2 [⟨pl, w, .mk h sub⟩] := by simp only [goalsOf, List.filter_cons, List.filter_nil, hh]
      rw [e3]
      refine ⟨by omega, fun h => ?_⟩
      rw [List.append_eq_nil_iff] at h ⊢
      exact ⟨h.1, hL.2 h.2⟩
theorem gmonoL {ws ws2 : List Wp} (hsub : ∀ x, skipW ws x = true → skipW ws2 x = true) : ∀ (l : List PT) (pl : List Int) (w i : Int), (∀ q ∈ l, HoleOk q) → 0 ≤ w →
    sumw (goalsOf ws (stepsL (skipW ws) pl w i l)) ≤ sumw (goalsOf ws2 (stepsL (skipW ws2) pl w i l)) ∧ (goalsOf ws2 (stepsL (skipW ws2) pl w i l) = [] → goalsOf ws (stepsL (skipW ws) pl w i l) = [])
  | [], pl, w, i, _, _ => by simp [stepsL, goalsOf, sumw]
  | t :: ts, pl, w, i, ho, hw => by
    have h1 := gmono hsub t (pl ++ [i]) w (ho t (List.mem_cons_self ..)) hw
    have h2 := gmonoL hsub ts pl w (i + 1) (fun q hq => ho q (List.mem_cons_of_mem _ hq)) hw
    rw [stepsL, stepsL, goalsOf_append, goalsOf_append, sumw_append, sumw_append]
    refine ⟨by omega, fun h => ?_⟩
    rw [List.append_eq_nil_iff] at h ⊢
    exact ⟨h1.2 h.1, h2.2 h.2⟩
end
theorem left_mono {ws ws2 : List Wp} {t : PT} (hsub : ∀ x, skipW ws x = true → skipW ws2 x = true) (hm : msr t = true) : leftw (goals ws2 t) ≤ leftw (goals ws t) := by
  obtain ⟨h1, h2⟩ := gmono hsub t [] whole (msr_holeOk hm) (by decide)
  have h3 := (goals_sum (ws := ws) hm).1
  rw [leftw, leftw, goals, goals] at *
  by_cases e : goalsOf ws (steps (skipW ws) [] whole t) = []
  · rw [if_pos e]; split <;> simp only [whole] <;> omega
  · rw [if_neg e, if_neg fun h => e (h2 h)]
    omega
end Go.Proofs.Ytbdnfllpdlbboaa
