import Derived.Test.YtbdnfllpdlbboaaZ19
namespace Go.Proofs.Ytbdnfllpdlbboaa
open Go Go.Zed
set_option maxRecDepth 10000
/-! ### Steps, flat; parts, and replacing them -/
structure Fl where
  (place : List Int) (w : Int) (r : ByteArray) (n : Nat)
mutual
def fl (skip : List Int → Bool) (place : List Int) (w : Int) : ST → List Fl
  | .mk r _ sub => ⟨place, w, r, sub.length⟩ :: (if skip place then [] else flL skip place (w / (2 * sub.length)) 0 sub)
def flL (skip : List Int → Bool) (place : List Int) (w : Int) (i : Int) : List ST → List Fl
  | [] => []
  | t :: ts => fl skip (place ++ [i]) w t ++ flL skip place w (i + 1) ts
end
@[reducible] def StS.fl (s : StS) : Fl := ⟨s.place, s.w, s.p.r, s.p.sub.length⟩
mutual
theorem stepsS_fl (skip : List Int → Bool) : ∀ (t : ST) (place : List Int) (w : Int), (stepsS skip place w t).map StS.fl = fl skip place w t
  | .mk r lab sub, place, w => by
    rw [stepsS, fl, List.map_cons]
    congr 1
    split
    · rfl
    · exact stepsSL_fl skip sub place _ 0
theorem stepsSL_fl (skip : List Int → Bool) : ∀ (l : List ST) (place : List Int) (w i : Int), (stepsSL skip place w i l).map StS.fl = flL skip place w i l
  | [], _, _, _ => by rw [stepsSL, flL]; rfl
  | t :: ts, place, w, i => by
    rw [stepsSL, flL, List.map_append, stepsS_fl skip t, stepsSL_fl skip ts]
end
theorem steps_fl (skip : List Int → Bool) (t : PT) (place : List Int) (w : Int) : (steps skip place w t).map (fun s => s.s.fl) = fl skip place w t.st := by
  rw [← stepsS_fl, ← steps_st, List.map_map]; rfl
def goodF (s : Fl) : Bool := decide (s.place.length ≤ 40) && decide (s.n ≤ 8) && !(isQ s.r && decide (0 < s.n))
theorem goodF_iff {s : Fl} : goodF s = true ↔ s.place.length ≤ 40 ∧ s.n ≤ 8 ∧ ¬ (isQ s.r = true ∧ 0 < s.n) := by
  simp only [goodF, Bool.and_eq_true, decide_eq_true_eq, Bool.not_eq_true', and_assoc, Bool.and_eq_false_iff, decide_eq_false_iff_not]
  refine and_congr_right fun _ => and_congr_right fun _ => ?_
  cases isQ s.r <;> simp
theorem msrS_fl (t : ST) : msrS t = (decide ((fl sk40 [] whole t).length ≤ 300) && (fl sk40 [] whole t).all goodF) := by
  rw [msrS, ← stepsS_fl, List.length_map, List.all_map]
  congr 1
theorem msrS_iff {t : ST} : msrS t = true ↔ (fl sk40 [] whole t).length ≤ 300 ∧ ∀ s ∈ fl sk40 [] whole t, goodF s = true := by
  rw [msrS_fl, Bool.and_eq_true, decide_eq_true_eq, List.all_eq_true]
def atS : ST → List Int → Option ST
  | t, [] => some t
  | .mk _ _ sub, i :: is => match (if 0 ≤ i then sub[i.toNat]? else none) with
    | some q => atS q is
    | none => none
def setS : ST → List Int → ST → ST
  | _, [], q => q
  | .mk r lab sub, i :: is, q => match sub[i.toNat]? with
    | some s => .mk r lab (sub.set i.toNat (setS s is q))
    | none => .mk r lab sub
theorem atS_pf : ∀ (l : List Int) (p : Pf), atS (pfS p) l = (atPf p l).map pfS
  | [], p => by rw [atS, atPf]; rfl
  | i :: is, .mk r f lab ss ms => by
    rw [pfS, atS, atPf, pfSs_map, List.getElem?_map]
    by_cases h0 : 0 ≤ i
    · rw [if_pos h0, if_pos h0]
      cases h : ss[i.toNat]? with
      | none => rfl
      | some q => exact atS_pf is q
    · rw [if_neg h0, if_neg h0]; rfl
theorem setS_pf : ∀ (l : List Int) (p q : Pf), setS (pfS p) l (pfS q) = pfS (setPf p l q)
  | [], p, q => by rw [setS, setPf]
  | i :: is, .mk r f lab ss ms, q => by
    rw [pfS, setS, setPf, pfSs_map, List.getElem?_map]
    cases h : ss[i.toNat]? with
    | none => simp only [Option.map_none]; rw [pfS, pfSs_map]
    | some s => simp only [Option.map_some]; rw [pfS, pfSs_map, List.map_set, setS_pf is s q]
/-- The weight at a place. -/
def wAtS : ST → Int → List Int → Int
  | _, w, [] => w
  | .mk _ _ sub, w, i :: is => match sub[i.toNat]? with
    | some q => wAtS q (w / (2 * sub.length)) is
    | none => w
theorem flL_append (skip : List Int → Bool) (place : List Int) (w : Int) : ∀ (a b : List ST) (i : Int), flL skip place w i (a ++ b) = flL skip place w i a ++ flL skip place w (i + a.length) b
  | [], b, i => by rw [List.nil_append, flL, List.nil_append, List.length_nil]; simp
  | t :: a, b, i => by
    rw [List.cons_append, flL, flL, flL_append skip place w a b, List.append_assoc, List.length_cons]
    congr 3; push_cast; omega
theorem atS_cons {r : ByteArray} {lab : Int} {sub : List ST} {i : Int} {is : List Int} {q : ST} (h : atS (.mk r lab sub) (i :: is) = some q) :
    0 ≤ i ∧ ∃ s, sub[i.toNat]? = some s ∧ atS s is = some q := by
  rw [atS] at h
  by_cases h0 : 0 ≤ i
  · rw [if_pos h0] at h
    cases h1 : sub[i.toNat]? with
    | none => rw [h1] at h; cases h
    | some s => rw [h1] at h; exact ⟨h0, s, rfl, h⟩
  · rw [if_neg h0] at h; cases h
theorem atS_go {r : ByteArray} {lab : Int} {sub : List ST} {i : Int} {is : List Int} {s : ST} (h0 : 0 ≤ i) (h : sub[i.toNat]? = some s) : atS (.mk r lab sub) (i :: is) = atS s is := by
  rw [atS, if_pos h0, h]
theorem setS_go {r : ByteArray} {lab : Int} {sub : List ST} {i : Int} {is : List Int} {s q : ST} (h : sub[i.toNat]? = some s) : setS (.mk r lab sub) (i :: is) q = .mk r lab (sub.set i.toNat (setS s is q)) := by
  rw [setS, h]
theorem set_split {α : Type} {l : List α} {i : Nat} {x y : α} (h : l[i]? = some x) : l.set i y = l.take i ++ y :: l.drop (i + 1) := by
  obtain ⟨hi, rfl⟩ := List.getElem?_eq_some_iff.1 h
  exact List.set_eq_take_append_cons_drop.trans (if_pos hi)
theorem split_at {α : Type} {l : List α} {i : Nat} {x : α} (h : l[i]? = some x) : l = l.take i ++ x :: l.drop (i + 1) := by
  obtain ⟨hi, rfl⟩ := List.getElem?_eq_some_iff.1 h
  rw [← List.drop_eq_getElem_cons hi, List.take_append_drop]
/-- What is at a place is a stretch of the steps. -/
theorem splice (skip : List Int → Bool) : ∀ (l : List Int) (t : ST) (pl : List Int) (w : Int) (q : ST), atS t l = some q → (∀ m, m <+: l → m ≠ l → skip (pl ++ m) = false) →
    ∃ pre post, (∀ r, fl skip pl w (setS t l r) = pre ++ (fl skip (pl ++ l) (wAtS t w l) r ++ post)) ∧ setS t l q = t
  | [], t, pl, w, q, h, hs => by
    rw [atS] at h
    obtain rfl := Option.some.inj h
    exact ⟨[], [], fun r => by rw [setS, wAtS, List.append_nil, List.nil_append, List.append_nil], by rw [setS]⟩
  | i :: is, .mk r lab sub, pl, w, q, h, hs => by
    obtain ⟨h0, s, h1, h2⟩ := atS_cons h
    obtain ⟨pre, post, k1, k2⟩ := splice skip is s (pl ++ [i]) (w / (2 * sub.length)) q h2 fun m hm hne => by
      rw [List.append_assoc]
      exact hs (i :: m) (List.prefix_cons_inj i |>.2 hm) (fun h => hne (List.cons.inj h).2)
    have hi : i.toNat < sub.length := (List.getElem?_eq_some_iff.1 h1).1
    have hsk : skip pl = false := by have := hs [] (List.nil_prefix) (by simp); rwa [List.append_nil] at this
    refine ⟨⟨pl, w, r, sub.length⟩ :: (flL skip pl (w / (2 * sub.length)) 0 (sub.take i.toNat) ++ pre), post ++ flL skip pl (w / (2 * sub.length)) (i + 1) (sub.drop (i.toNat + 1)), fun x => ?_, ?_⟩
    · rw [setS_go h1, fl, hsk, List.length_set, set_split h1, if_neg (by simp), flL_append, flL, List.length_take, Nat.min_eq_left (by omega), show (0 : Int) + (i.toNat : Int) = i by omega, k1 x, wAtS, h1]
      simp only [List.cons_append, List.append_assoc, List.nil_append]
    · rw [setS_go h1, k2, set_same h1]
theorem atS_append : ∀ (l m : List Int) (t : ST), atS t (l ++ m) = (atS t l).bind fun q => atS q m
  | [], m, t => by rw [List.nil_append, atS]; rfl
  | i :: l, m, .mk r lab sub => by
    rw [List.cons_append, atS, atS]
    cases (if 0 ≤ i then sub[i.toNat]? else none) with
    | none => rfl
    | some q => exact atS_append l m q
theorem atS_setS : ∀ (l : List Int) (t q x : ST), atS t l = some q → atS (setS t l x) l = some x
  | [], t, q, x, _ => by rw [setS, atS]
  | i :: is, .mk r lab sub, q, x, h => by
    obtain ⟨h0, s, h1, h2⟩ := atS_cons h
    have hi : i.toNat < sub.length := (List.getElem?_eq_some_iff.1 h1).1
    rw [setS_go h1, atS_go h0 (s := setS s is x) (by rw [List.getElem?_set_self hi])]
    exact atS_setS is s q x h2
/-! ### What is measurable -/
theorem fl_head (skip : List Int → Bool) (pl : List Int) (w : Int) (q : ST) : ∃ rest, fl skip pl w q = ⟨pl, w, q.r, q.sub.length⟩ :: rest := by
  obtain ⟨r, lab, sub⟩ := q
  rw [fl]; exact ⟨_, rfl⟩
theorem sk40_pre {l : List Int} (h : l.length ≤ 41) : ∀ m, m <+: l → m ≠ l → sk40 ([] ++ m) = false := by
  intro m hm hne
  have h1 := hm.length_le
  have h2 : m.length ≠ l.length := fun h => hne (List.IsPrefix.eq_of_length hm h)
  rw [sk40, List.nil_append, decide_eq_false]; omega
theorem msr_at {t : ST} {l : List Int} {q : ST} (hm : msrS t = true) (h : atS t l = some q) : l.length ≤ 40 ∧ q.sub.length ≤ 8 ∧ ¬ (isQ q.r = true ∧ 0 < q.sub.length) := by
  have key : ∀ (l : List Int) (q : ST), l.length ≤ 41 → atS t l = some q → l.length ≤ 40 ∧ q.sub.length ≤ 8 ∧ ¬ (isQ q.r = true ∧ 0 < q.sub.length) := by
    intro l q hl h
    obtain ⟨pre, post, k1, k2⟩ := splice sk40 l t [] whole q h (sk40_pre hl)
    obtain ⟨rest, k3⟩ := fl_head sk40 l (wAtS t whole l) q
    have := k1 q
    rw [k2, List.nil_append, k3] at this
    exact goodF_iff.1 ((msrS_iff.1 hm).2 ⟨l, wAtS t whole l, q.r, q.sub.length⟩ (by rw [this]; simp))
  by_cases hl : l.length ≤ 41
  · exact key l q hl h
  · have h2 : atS t (l.take 41 ++ l.drop 41) = some q := by rw [List.take_append_drop]; exact h
    rw [atS_append] at h2
    cases h3 : atS t (l.take 41) with
    | none => rw [h3] at h2; cases h2
    | some q' =>
      have := (key _ _ (by simp; omega) h3).1
      rw [List.length_take] at this
      omega
/-! ### Parts of proofs -/
theorem atPf_go {r : ByteArray} {f : Fm} {lab : Int} {ss : List Pf} {ms : List (List Int)} {i : Int} {is : List Int} {s : Pf} (h0 : 0 ≤ i) (h : ss[i.toNat]? = some s) : atPf (.mk r f lab ss ms) (i :: is) = atPf s is := by
  rw [atPf, if_pos h0, h]
theorem atPf_cons {r : ByteArray} {f : Fm} {lab : Int} {ss : List Pf} {ms : List (List Int)} {i : Int} {is : List Int} {q : Pf} (h : atPf (.mk r f lab ss ms) (i :: is) = some q) :
    0 ≤ i ∧ ∃ s, ss[i.toNat]? = some s ∧ atPf s is = some q := by
  rw [atPf] at h
  by_cases h0 : 0 ≤ i
  · rw [if_pos h0] at h
    cases h1 : ss[i.toNat]? with
    | none => rw [h1] at h; cases h
    | some s => rw [h1] at h; exact ⟨h0, s, rfl, h⟩
  · rw [if_neg h0] at h; cases h
theorem setPf_go {r : ByteArray} {f : Fm} {lab : Int} {ss : List Pf} {ms : List (List Int)} {i : Int} {is : List Int} {s q : Pf} (h : ss[i.toNat]? = some s) : setPf (.mk r f lab ss ms) (i :: is) q = .mk r f lab (ss.set i.toNat (setPf s is q)) ms := by
  rw [setPf, h]
theorem atPf_setPf : ∀ (l : List Int) (t q x : Pf), atPf t l = some q → atPf (setPf t l x) l = some x
  | [], t, q, x, _ => by rw [setPf, atPf]
  | i :: is, .mk r f lab ss ms, q, x, h => by
    obtain ⟨h0, s, h1, h2⟩ := atPf_cons h
    have hi : i.toNat < ss.length := (List.getElem?_eq_some_iff.1 h1).1
    rw [setPf_go h1, atPf_go h0 (s := setPf s is x) (by rw [List.getElem?_set_self hi])]
    exact atPf_setPf is s q x h2
theorem setPf_comm : ∀ (l m : List Int) (p x y q1 q2 : Pf), atPf p l = some q1 → atPf p m = some q2 → ¬ l <+: m → ¬ m <+: l →
    setPf (setPf p l x) m y = setPf (setPf p m y) l x ∧ atPf (setPf p l x) m = some q2
  | [], m, p, x, y, q1, q2, _, _, h, _ => absurd List.nil_prefix h
  | _ :: _, [], p, x, y, q1, q2, _, _, _, h => absurd List.nil_prefix h
  | i :: is, j :: js, .mk r f lab ss ms, x, y, q1, q2, h1, h2, n1, n2 => by
    obtain ⟨i0, s, k1, k2⟩ := atPf_cons h1
    obtain ⟨j0, u, j1, j2⟩ := atPf_cons h2
    have hi : i.toNat < ss.length := (List.getElem?_eq_some_iff.1 k1).1
    have hj : j.toNat < ss.length := (List.getElem?_eq_some_iff.1 j1).1
    rw [setPf_go k1, setPf_go j1]
    by_cases hij : i = j
    · subst hij
      rw [k1] at j1
      obtain rfl := Option.some.inj j1
      obtain ⟨e1, e2⟩ := setPf_comm is js s x y q1 q2 k2 j2 (fun h => n1 ((List.prefix_cons_inj i).2 h)) (fun h => n2 ((List.prefix_cons_inj i).2 h))
      rw [setPf_go (s := setPf s is x) (by rw [List.getElem?_set_self hi]), setPf_go (s := setPf s js y) (by rw [List.getElem?_set_self hi]), List.set_set, List.set_set, e1,
        atPf_go i0 (s := setPf s is x) (by rw [List.getElem?_set_self hi])]
      exact ⟨rfl, e2⟩
    · have hne : i.toNat ≠ j.toNat := by omega
      rw [setPf_go (s := u) (by rw [List.getElem?_set_ne hne, j1]), setPf_go (s := s) (by rw [List.getElem?_set_ne (Ne.symm hne), k1]), List.set_comm _ _ hne,
        atPf_go j0 (s := u) (by rw [List.getElem?_set_ne hne, j1])]
      exact ⟨rfl, j2⟩
theorem apart {t : ST} {l m : List Int} {q1 q2 : ST} (h1 : atS t l = some q1) (h2 : atS t m = some q2) (n1 : q1.sub = []) (n2 : q2.sub = []) (hne : l ≠ m) : ¬ l <+: m ∧ ¬ m <+: l := by
  have key : ∀ {l m : List Int} {q1 q2 : ST}, atS t l = some q1 → atS t m = some q2 → q1.sub = [] → l <+: m → l = m := by
    rintro l _ ⟨r, lab, sub⟩ q2 h1 h2 n1 ⟨k, rfl⟩
    rw [atS_append, h1] at h2
    cases k with
    | nil => rw [List.append_nil]
    | cons i is =>
      obtain ⟨_, s, h3, _⟩ := atS_cons (r := r) (lab := lab) h2
      dsimp only [ST.sub] at n1
      rw [n1] at h3
      cases h3
  exact ⟨fun h => hne (key h1 h2 n1 h), fun h => hne (key h2 h1 n2 h).symm⟩
/-! ### Goals, flat -/
def goalsF (ws : List Wp) (l : List Fl) : List (List Int × Int) := (l.filter fun s => isQ s.r || skipW ws s.place).map fun s => (s.place, s.w)
def gls (ws : List Wp) (t : ST) : List (List Int × Int) := goalsF ws (fl (skipW ws) [] whole t)
theorem goals_gls (ws : List Wp) (t : PT) : goals ws t = gls ws t.st := by
  rw [goals, gls, goalsOf, goalsF, ← steps_fl, List.filter_map, List.map_map]
  have e : isGoal ws = (fun s : Fl => isQ s.r || skipW ws s.place) ∘ fun s : Stp => s.s.fl := by
    funext ⟨pl, w, ⟨h, sub⟩⟩; rfl
  rw [e]; rfl
theorem goalsF_append (ws : List Wp) (a b : List Fl) : goalsF ws (a ++ b) = goalsF ws a ++ goalsF ws b := by
  rw [goalsF, goalsF, goalsF, List.filter_append, List.map_append]
mutual
theorem fl_at (skip : List Int → Bool) : ∀ (t : ST) (pl : List Int) (w : Int), ∀ s ∈ fl skip pl w t, ∃ rel q, s.place = pl ++ rel ∧ atS t rel = some q ∧ q.r = s.r ∧ q.sub.length = s.n ∧ wAtS t w rel = s.w
  | .mk r lab sub, pl, w, s, hs => by
    rw [fl, List.mem_cons] at hs
    rcases hs with rfl | hs
    · exact ⟨[], .mk r lab sub, by rw [List.append_nil], by rw [atS], rfl, rfl, by rw [wAtS]⟩
    · split at hs
      · cases hs
      · obtain ⟨j, rel, u, q, h1, h2, h3, h4, h5, h6⟩ := flL_at skip sub pl (w / (2 * sub.length)) 0 s hs
        refine ⟨(j : Int) :: rel, q, by rw [h1, Int.zero_add], ?_, h4, h5, ?_⟩
        · rw [atS_go (by omega) (s := u) (by simpa using h2)]; exact h3
        · rw [wAtS]
          simp only [Int.toNat_natCast, h2]
          exact h6
theorem flL_at (skip : List Int → Bool) : ∀ (l : List ST) (pl : List Int) (w i : Int), ∀ s ∈ flL skip pl w i l, ∃ (j : Nat) (rel : List Int) (u q : ST), s.place = pl ++ (i + j) :: rel ∧ l[j]? = some u ∧ atS u rel = some q ∧ q.r = s.r ∧ q.sub.length = s.n ∧ wAtS u w rel = s.w
  | [], _, _, _, s, hs => by rw [flL] at hs; cases hs
  | t :: ts, pl, w, i, s, hs => by
    rw [flL, List.mem_append] at hs
    rcases hs with hs | hs
    · obtain ⟨rel, q, h1, h2, h3, h4, h5⟩ := fl_at skip t (pl ++ [i]) w s hs
      exact ⟨0, rel, t, q, by rw [h1, List.append_assoc]; simp, rfl, h2, h3, h4, h5⟩
    · obtain ⟨j, rel, u, q, h1, h2, h3, h4, h5, h6⟩ := flL_at skip ts pl w (i + 1) s hs
      exact ⟨j + 1, rel, u, q, by rw [h1]; congr 2; push_cast; omega, by simpa using h2, h3, h4, h5, h6⟩
end
theorem skipW_nl (x : List Int) : skipW [] x = false := rfl
/-- A goal of a measurable proof is a hole. -/
theorem gls_at {t : ST} (hm : msrS t = true) {x : List Int × Int} (hx : x ∈ gls [] t) : ∃ q, atS t x.1 = some q ∧ isQ q.r = true ∧ q.sub = [] ∧ wAtS t whole x.1 = x.2 := by
  simp only [gls, goalsF, List.mem_map, List.mem_filter] at hx
  obtain ⟨s, ⟨hs, hg⟩, rfl⟩ := hx
  obtain ⟨rel, q, h1, h2, h3, h4, h5⟩ := fl_at _ t [] whole s hs
  rw [List.nil_append] at h1
  rw [skipW_nl, Bool.or_false] at hg
  have hq : isQ q.r = true := by rw [h3]; exact hg
  refine ⟨q, by rw [h1]; exact h2, hq, ?_, by rw [h1]; exact h5⟩
  have := (msr_at hm h2).2.2
  exact List.length_eq_zero_iff.1 (Nat.eq_zero_of_not_pos fun h => this ⟨hq, h⟩)
theorem skipW_none : skipW [] = fun _ => false := rfl
theorem fl_leaf {skip : List Int → Bool} {pl : List Int} {w : Int} {q : ST} (h : q.sub = []) : fl skip pl w q = [⟨pl, w, q.r, 0⟩] := by
  obtain ⟨r, lab, sub⟩ := q
  dsimp only [ST.sub] at h
  subst h
  rw [fl, flL, ite_self]; rfl
/-- What is put at the place of a goal: the other goals stay. -/
theorem gls_set {t : ST} {x : List Int × Int} (hm : msrS t = true) (hx : x ∈ gls [] t) : ∃ pre post, gls [] t = pre ++ x :: post ∧ ∀ r, gls [] (setS t x.1 r) = pre ++ (goalsF [] (fl (fun _ => false) x.1 x.2 r) ++ post) := by
  obtain ⟨q, h1, h2, h3, h4⟩ := gls_at hm hx
  obtain ⟨pre, post, k1, k2⟩ := splice (fun _ => false) x.1 t [] whole q h1 fun _ _ _ => rfl
  refine ⟨goalsF [] pre, goalsF [] post, ?_, fun r => ?_⟩
  · have := k1 q
    rw [k2, fl_leaf h3, h4, List.nil_append] at this
    rw [gls, skipW_none, this, goalsF_append, goalsF_append]
    have e : goalsF [] [⟨x.1, x.2, q.r, 0⟩] = [x] := by simp [goalsF, h2]
    rw [e]; rfl
  · rw [gls, skipW_none, k1 r, goalsF_append, goalsF_append, h4, List.nil_append]
end Go.Proofs.Ytbdnfllpdlbboaa
