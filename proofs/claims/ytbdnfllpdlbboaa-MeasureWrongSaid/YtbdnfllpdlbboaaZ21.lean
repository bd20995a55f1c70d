import Derived.Test.YtbdnfllpdlbboaaZ20
namespace Go.Proofs.Ytbdnfllpdlbboaa
open Go Go.Zed
set_option maxRecDepth 10000
set_option maxHeartbeats 4000000
/-! ### Built proofs as deep values; contracts for the statements -/
@[reducible] def plPf (r : ByteArray) (lab : Int) (ps : List Pf) : Pf := .mk r (.mk 0 { data := #[] } [] []) lab ps []
theorem Dp.mkPl {g : Img} {r : ByteArray} {lab : Int} {a : Option Addr} {n cap : Nat} {sub : List PT} {ps : List Pf} (hl : sub.length = ps.length) (hs : Sl g 8 a n (sub.map fun t => t.h.cells)) (hn : sub.length ≤ 1000000)
    (h : ∀ (i : Nat) t p, sub[i]? = some t → ps[i]? = some p → Dp g t p) : Dp g (.mk (plainPH r lab ⟨a, n, cap⟩) sub) (plPf r lab ps) := by
  obtain ⟨xs, k1, k2⟩ := choose2 (P := fun t p x => Lk x t ∧ RpL g x ∧ shL x = encP p ∧ Rep g t ∧ t.st = pfS p) hl fun i t p ht hp => h i t p ht hp
  have key : ∀ (i : Nat) (t : PT), sub[i]? = some t → ∃ x p, xs[i]? = some x ∧ ps[i]? = some p ∧ Lk x t ∧ RpL g x ∧ shL x = encP p ∧ Rep g t ∧ t.st = pfS p := by
    intro i t ht
    have hi : i < sub.length := (List.getElem?_eq_some_iff.1 ht).1
    have e1 : xs[i]? = some xs[i] := List.getElem?_eq_getElem (by omega)
    have e2 : ps[i]? = some ps[i] := List.getElem?_eq_getElem (by omega)
    exact ⟨_, _, e1, e2, k2 i t _ _ ht e2 e1⟩
  have hcells : sub.map (fun t => t.h.cells) = xs.map vals := by
    refine List.ext_getElem? fun i => ?_
    rw [List.getElem?_map, List.getElem?_map]
    rcases hq : sub[i]? with _ | t
    · rw [List.getElem?_eq_none_iff] at hq
      rw [List.getElem?_eq_none (by omega)]; rfl
    · obtain ⟨x, p, e1, e2, h1, _⟩ := key i t hq
      rw [e1]; exact congrArg some h1.cells
  have hsh : shLL xs = encPs ps := by
    rw [shLL_map, encPs_map]
    refine List.ext_getElem? fun i => ?_
    rw [List.getElem?_map, List.getElem?_map]
    rcases hq : sub[i]? with _ | t
    · rw [List.getElem?_eq_none_iff] at hq
      rw [List.getElem?_eq_none (by omega), List.getElem?_eq_none (by omega)]; rfl
    · obtain ⟨x, p, e1, e2, _, _, h3, _⟩ := key i t hq
      rw [e1, e2]; exact congrArg some h3
  have hst : sub.map PT.st = ps.map pfS := by
    refine List.ext_getElem? fun i => ?_
    rw [List.getElem?_map, List.getElem?_map]
    rcases hq : sub[i]? with _ | t
    · rw [List.getElem?_eq_none_iff] at hq
      rw [List.getElem?_eq_none (by omega)]; rfl
    · obtain ⟨x, p, e1, e2, _, _, _, _, h5⟩ := key i t hq
      rw [e2]; exact congrArg some h5
  refine ⟨[.at (.string r), .at (.int .u8 0), .at (.string { data := #[] }), .sl 102 3 none 0 0 [], .sl 26 4 none 0 0 [], .at (.int .i64 lab), .sl 30 8 a n cap xs, .sl 37 1 none 0 0 []], .mk k1 fun i x t hx ht => ?_, ?_, ?_, .mk hs hn fun q hq => ?_, ?_⟩
  · obtain ⟨x', p, e1, _, h1, _⟩ := key i t ht
    rw [hx] at e1; cases e1; exact h1
  · intro d hd
    simp only [List.mem_cons, List.not_mem_nil, or_false] at hd
    rcases hd with rfl | rfl | rfl | rfl | rfl | rfl | rfl | rfl
    · exact .at _ rfl
    · exact .at _ rfl
    · exact .at _ rfl
    · exact .sl .nil (by simp) (by simp)
    · exact .sl .nil (by simp) (by simp)
    · exact .at _ rfl
    · refine .sl (by rw [← hcells]; exact hs) (by omega) fun x hx => ?_
      obtain ⟨i, hi⟩ := List.mem_iff_getElem?.1 hx
      have hil : i < xs.length := (List.getElem?_eq_some_iff.1 hi).1
      obtain ⟨x', p, e1, _, _, h2, _⟩ := key i sub[i] (List.getElem?_eq_getElem (by omega))
      rw [hi] at e1; cases e1; exact h2
    · exact .sl .nil (by simp) (by simp)
  · rw [encP, encF]
    simp only [shL_map, List.map_cons, List.map_nil, DV.sh, slD, encTs, encFs, hsh, shLL, encM, List.length_nil, List.map_nil, List.cons_append, List.nil_append]
    rw [show xs.length = (encPs ps).length by rw [encPs_map, List.length_map]; omega]
  · obtain ⟨i, hi⟩ := List.mem_iff_getElem?.1 hq
    obtain ⟨_, _, _, _, _, _, _, h4, _⟩ := key i q hi
    exact h4
  · rw [PT.st, pfS, stL_map, pfSs_map, hst]
@[reducible] def holePf : Pf := plPf { data := #[63] } 0 []
theorem Dp.hole {g : Img} : Dp g holeT holePf := .mkPl rfl .nil (by simp) (by simp)
theorem bt_dp {g : Img} {d : Nat} {t : PT} (h : Bt d t) (hr : Rep g t) : ∃ p, Dp g t p := by
  induction h with
  | hole => exact ⟨_, .hole⟩
  | leaf n hn => exact ⟨plPf { data := #[] } n [], .mkPl rfl .nil (by simp) (by simp)⟩
  | @step d s sub h3 hs h ih =>
    cases hr with
    | mk hsl hn hq =>
      have : ∀ l : List PT, (∀ q ∈ l, q ∈ sub) → ∃ ps : List Pf, l.length = ps.length ∧ ∀ (i : Nat) t p, l[i]? = some t → ps[i]? = some p → Dp g t p := by
        intro l
        induction l with
        | nil => exact fun _ => ⟨[], rfl, by simp⟩
        | cons t l ihl =>
          intro hm
          obtain ⟨ps, e1, e2⟩ := ihl fun q hq => hm q (List.mem_cons_of_mem _ hq)
          have ht := hm t (List.mem_cons_self ..)
          obtain ⟨p, hp⟩ := ih t ht (hq t ht)
          refine ⟨p :: ps, by simp [e1], fun i t' p' h1 h2 => ?_⟩
          cases i with
          | zero =>
            obtain rfl : t = t' := by simpa using h1
            obtain rfl : p = p' := by simpa using h2
            exact hp
          | succ i => exact e2 i t' p' (by simpa using h1) (by simpa using h2)
      obtain ⟨ps, e1, e2⟩ := this sub fun _ h => h
      exact ⟨_, .mkPl (cap := s.cap) e1 hsl hn e2⟩
theorem bt_deep {d : Nat} {t : PT} (h : Bt d t) : ∀ {l : List Int} {q : PT}, atP t l = some q → l.length ≤ d := by
  induction h with
  | hole =>
    intro l q h
    cases l with
    | nil => simp
    | cons i is => rw [atP] at h; simp at h
  | leaf n hn =>
    intro l q h
    cases l with
    | nil => simp
    | cons i is => rw [atP] at h; simp at h
  | @step d s sub h3 hs h ih =>
    intro l q hq
    cases l with
    | nil => simp
    | cons i is =>
      rw [atP] at hq
      by_cases h0 : 0 ≤ i
      · rw [if_pos h0] at hq
        cases h1 : sub[i.toNat]? with
        | none => simp only [PT.sub, h1] at hq; cases hq
        | some s =>
          simp only [PT.sub, h1] at hq
          have := ih s (List.mem_of_getElem? h1) hq
          simp only [List.length_cons]; omega
      · rw [if_neg h0] at hq; cases hq
theorem atS_pt : ∀ (l : List Int) (t : PT), atS t.st l = (atP t l).map PT.st
  | [], t => by rw [atS, atP]; rfl
  | i :: is, .mk h sub => by
    rw [PT.st, atS, atP, stL_map, List.getElem?_map]
    by_cases h0 : 0 ≤ i
    · rw [if_pos h0, if_pos h0]
      cases h1 : sub[i.toNat]? with
      | none => rfl
      | some q => simp only [Option.map_some]; rw [atS_pt is q]
    · rw [if_neg h0, if_neg h0]; rfl
/-- What Built makes, as a proof. -/
structure BtP (p : Pf) : Prop where
  msr : msrS (pfS p) = true
  deep : ∀ {l : List Int} {q : ST}, atS (pfS p) l = some q → l.length ≤ 12
  nds : (fl sk40 [] whole (pfS p)).length ≤ 181
theorem BtP.of {g : Img} {t : PT} {p : Pf} (h : Dp g t p) (hb : Bt 12 t) (hn : nodes t ≤ 181) : BtP p := by
  refine ⟨?_, fun {l q} hq => ?_, ?_⟩
  · rw [← h.st, ← msr_st]; exact msr_of_bt hb (by omega)
  · rw [← h.st, atS_pt] at hq
    cases h1 : atP t l with
    | none => rw [h1] at hq; cases hq
    | some q' => exact bt_deep hb h1
  · rw [← h.st, ← steps_fl, List.length_map]
    have := steps_len sk40 t [] whole
    omega
theorem chk_D {g : Img} {t : PT} {p : Pf} (h : Dp g t p) (hm : msrS (pfS p) = true) : chk t [] = 0 := by
  rw [chk, msr_st, h.st, hm]; rfl
section
variable {c : Cx} {g : Img} {D : List Deferred} {ty : TypeId} {e : List (Nat × Value)} {own r : List HProp} {K : Value → List HProp → Img → Prop} {xs : List Operand} {ats : Array TypeId} {fid N : Nat} {F0 : Frag} {g0 : Img} {Post : Value → List HProp → Img → Prop}
theorem c_builtD {a : Option Addr} {n cap : Nat} {l : List Int} (hx : evs e xs = some [.slice a n cap]) (hl : ∀ x ∈ l, 0 ≤ x ∧ x ≤ 255) (hs : Sl g 1 a n (l.map fun x => [.int .u8 x]))
    (hK : ∀ g1 t p, Le g g1 → Dp g1 t p → BtP p → K (.agg t.h.cells.toArray) own g1) :
    OpOk (fnCx Try.prog fid N F0 g0 Post) D (.call { callee := .value (.func 10), args := xs.toArray, argTypes := ats }) ty e own g K := by
  refine c_built hx hl hs fun g1 t hle hr hb hn _ => ?_
  obtain ⟨p, hp⟩ := bt_dp hb hr
  exact hK g1 t p hle hp (.of hp hb hn)
theorem c_builtN {a : Option Addr} {n cap : Nat} (hx : evs e xs = some [.slice a n cap]) (hs : Sl g 1 a n ((List.replicate 60 4).map fun x => [.int .u8 x]))
    (hK : ∀ g1 t p, Le g g1 → Dp g1 t p → 60 ≤ nodes t → K (.agg t.h.cells.toArray) own g1) :
    OpOk (fnCx Try.prog fid N F0 g0 Post) D (.call { callee := .value (.func 10), args := xs.toArray, argTypes := ats }) ty e own g K := by
  refine c_built hx (fun x hx => ?_) hs fun g1 t hle hr hb hn h60 => ?_
  · obtain rfl := (List.mem_replicate.1 hx).2; omega
  · obtain ⟨p, hp⟩ := bt_dp hb hr
    exact hK g1 t p hle hp (h60 (fun x hx => (List.mem_replicate.1 hx).2) (by simp))
theorem c_goalsD {t : PT} {p : Pf} (hx : evs e xs = some [.agg t.h.cells.toArray, .slice none 0 0]) (h : Dp g t p) (hm : msrS (pfS p) = true)
    (hK : ∀ g2 ao no co gl, Le g g2 → Sl g2 2 ao no (gl.map Gl.cells) → GlRep g2 gl (gls [] (pfS p)) → K (.tuple [.slice ao no co, .int .i64 0].toArray) own g2) :
    OpOk (fnCx Try.prog fid N F0 g0 Post) D (.call { callee := .value (.func 11), args := xs.toArray, argTypes := ats }) ty e own g K := by
  refine c_goals (ws := []) hx h.rep pl_nil (by simp) (by simp) (fun h2 => absurd (chk_D h hm) h2) fun g2 ao no co gl hle _ h1 h2 => ?_
  rw [goals_gls, h.st] at h2
  exact hK g2 ao no co gl hle h1 h2
theorem c_sameT {t u : PT} {p q : Pf} (hx : evs e xs = some [.agg t.h.cells.toArray, .agg u.h.cells.toArray]) (h : Dp g t p) (h2 : Dp g u q) (he : p = q) (hK : K (.bool true) own g) :
    OpOk (fnCx Try.prog fid N F0 g0 Post) D (.call { callee := .value (.func 31), args := xs.toArray, argTypes := ats }) ty e own g K := by
  refine OpOk.pure rfl hx (fun F => sameP_ok F g h h2) ?_
  rw [eqb_yes he]; exact hK
theorem c_ints {a a' : Option Addr} {n n' cap cap' : Nat} {l l' : List Int} {b : Bool} (hx : evs e xs = some [.slice a n cap, .slice a' n' cap']) (h1 : Sl g 1 a n (ints l)) (h2 : Sl g 1 a' n' (ints l')) (h3 : l.length ≤ 1000000000000) (h4 : l'.length ≤ 1000000000000)
    (hb : decide (l = l') = b) (hK : K (.bool b) own g) :
    OpOk (fnCx Try.prog fid N F0 g0 Post) D (.call { callee := .value (.func 26), args := xs.toArray, argTypes := ats }) ty e own g K := by
  refine OpOk.pure rfl hx (fun F => ints_eq_ok F g h1 h2 h3 h4) ?_
  rw [hb]; exact hK
end
mutual
theorem fl_congr {skip skip' : List Int → Bool} : ∀ (t : ST) (pl : List Int) (w : Int), (∀ rel, atS t rel ≠ none → skip (pl ++ rel) = skip' (pl ++ rel)) → fl skip pl w t = fl skip' pl w t
  | .mk r lab sub, pl, w, h => by
    have h0 := h [] (by rw [atS]; simp)
    rw [List.append_nil] at h0
    have h1 := flL_congr (skip := skip) (skip' := skip') sub pl (w / (2 * sub.length)) 0 fun j u rel hj hu => by
      rw [Int.zero_add]
      exact h (j :: rel) (by rw [atS_go (by omega) (s := u) (by simpa using hj)]; exact hu)
    rw [fl, fl, h0, h1]
theorem flL_congr {skip skip' : List Int → Bool} : ∀ (l : List ST) (pl : List Int) (w i : Int), (∀ (j : Nat) u rel, l[j]? = some u → atS u rel ≠ none → skip (pl ++ (i + j) :: rel) = skip' (pl ++ (i + j) :: rel)) → flL skip pl w i l = flL skip' pl w i l
  | [], _, _, _, _ => by rw [flL, flL]
  | t :: ts, pl, w, i, h => by
    have h1 := fl_congr (skip := skip) (skip' := skip') t (pl ++ [i]) w fun rel hr => by
      have := h 0 t rel rfl hr
      rw [List.append_assoc]; simpa using this
    have h2 := flL_congr (skip := skip) (skip' := skip') ts pl w (i + 1) fun j u rel hj hu => by
      have := h (j + 1) u rel (by simpa using hj) hu
      rw [show i + 1 + (j : Int) = i + ((j + 1 : Nat) : Int) by push_cast; omega]; exact this
    rw [flL, flL, h1, h2]
end
theorem fl_none {t : ST} (hm : msrS t = true) : fl (fun _ => false) [] whole t = fl sk40 [] whole t :=
  fl_congr t [] whole fun rel hr => by
    obtain ⟨q, hq⟩ := Option.ne_none_iff_exists'.1 hr
    have := (msr_at hm hq).1
    rw [List.nil_append, sk40, decide_eq_false (by omega)]
theorem lessP_irr : ∀ l : List Int, lessP l l = false
  | [] => by rw [lessP]
  | a :: l => by rw [lessP, if_pos rfl, lessP_irr l]
structure Gls (l : List (List Int × Int)) : Prop where
  len : l.length ≤ 300
  pl : ∀ x ∈ l, x.1.length ≤ 40
  ne : l.Pairwise fun a b => a.1 ≠ b.1
theorem Gls.of {g : Img} {t : PT} {p : Pf} (h : Dp g t p) (hm : msrS (pfS p) = true) : Gls (gls [] (pfS p)) := by
  refine ⟨?_, fun x hx => ?_, ?_⟩
  · have h1 := (msrS_iff.1 hm).1
    rw [← fl_none hm] at h1
    rw [gls, skipW_none, goalsF, List.length_map]
    exact Nat.le_trans (List.length_filter_le _ _) h1
  · obtain ⟨q, hq, _⟩ := gls_at hm hx
    exact (msr_at hm hq).1
  · rw [← h.st, ← goals_gls]
    refine goals_sorted.imp fun {a b} hab he => ?_
    rw [he, lessP_irr] at hab; cases hab
theorem GlRep.get {g : Img} {gl : List Gl} {l : List (List Int × Int)} (h : GlRep g gl l) {i : Nat} {x : Gl} (hx : gl[i]? = some x) : Sl g 1 x.a x.n (ints x.l) ∧ l[i]? = some (x.l, x.w) := by
  refine ⟨h.el x (List.mem_of_getElem? hx), ?_⟩
  rw [← h.eq, List.getElem?_map, hx]; rfl
theorem GlRep.len {g : Img} {gl : List Gl} {l : List (List Int × Int)} (h : GlRep g gl l) : gl.length = l.length := by rw [← h.eq, List.length_map]
theorem other {n i c : Int} (hi : 0 ≤ i ∧ i < n) (hc : 0 ≤ c ∧ c < n - 1) : 0 ≤ (i + 1 + c) % n ∧ (i + 1 + c) % n < n ∧ (i + 1 + c) % n ≠ i := by
  refine ⟨Int.emod_nonneg _ (by omega), Int.emod_lt_of_pos _ (by omega), ?_⟩
  by_cases h : i + 1 + c < n
  · rw [Int.emod_eq_of_lt (by omega) h]; omega
  · rw [show i + 1 + c = (i + 1 + c - n) + n * 1 by omega, Int.add_mul_emod_self_left, Int.emod_eq_of_lt (by omega) (by omega)]; omega
theorem Gls.at_ne {l : List (List Int × Int)} (h : Gls l) {i j : Nat} {a b : List Int × Int} (hi : l[i]? = some a) (hj : l[j]? = some b) (hij : i ≠ j) : a.1 ≠ b.1 := by
  obtain ⟨hi', rfl⟩ := List.getElem?_eq_some_iff.1 hi
  obtain ⟨hj', rfl⟩ := List.getElem?_eq_some_iff.1 hj
  rcases Nat.lt_or_ge i j with h1 | h1
  · exact List.pairwise_iff_getElem.1 h.ne i j hi' hj' h1
  · exact (List.pairwise_iff_getElem.1 h.ne j i hj' hi' (by omega)).symm
/-- Two goals do not affect each other. -/
structure Apt (p : Pf) (u1 u2 : List Int × Int) (x y : Pf) : Prop where
  e1 : withE p u1.1 x = 0 ∨ withE p u1.1 x = 5
  e2 : withE p u2.1 y = 0 ∨ withE p u2.1 y = 5
  l1 : u1.1.length ≤ 1000000000000
  l2 : u2.1.length ≤ 1000000000000
  both : withE p u1.1 x = 0 → withE p u2.1 y = 0 → withE (withV p u1.1 x) u2.1 y = withE (withV p u2.1 y) u1.1 x ∧ (withE (withV p u1.1 x) u2.1 y = 0 ∨ withE (withV p u1.1 x) u2.1 y = 5)
  at1 : withE p u1.1 x = 0 → withE (withV p u1.1 x) u2.1 y = 0 → atE (withV (withV p u1.1 x) u2.1 y) u1.1 = 0 ∧ atV (withV (withV p u1.1 x) u2.1 y) u1.1 = x
  at2 : withE p u1.1 x = 0 → withE (withV p u1.1 x) u2.1 y = 0 → atE (withV (withV p u1.1 x) u2.1 y) u2.1 = 0 ∧ atV (withV (withV p u1.1 x) u2.1 y) u2.1 = y
  comm : withE p u1.1 x = 0 → withE p u2.1 y = 0 → withE (withV p u1.1 x) u2.1 y = 0 → withV (withV p u1.1 x) u2.1 y = withV (withV p u2.1 y) u1.1 x
  rest : withE p u1.1 x = 0 → withE (withV p u1.1 x) u2.1 y = 0 → msrS (pfS (withV (withV p u1.1 x) u2.1 y)) = true ∧ ∀ u ∈ gls [] (pfS p), u.1 ≠ u1.1 → u.1 ≠ u2.1 → u ∈ gls [] (pfS (withV (withV p u1.1 x) u2.1 y))
theorem withE_cases {p x : Pf} {l : List Int} {q : Pf} (hm : msrS (pfS p) = true) (h : atPf p l = some q) : withE p l x = if msrS (pfS (setPf p l x)) then 0 else 5 := by
  rw [withE, hm, h]; rfl
theorem withE_0 {p x : Pf} {l : List Int} (h : withE p l x = 0) : withV p l x = setPf p l x ∧ msrS (pfS (setPf p l x)) = true := by
  refine ⟨by rw [withV, if_pos h], ?_⟩
  rw [withE] at h
  cases hm : msrS (pfS (setPf p l x))
  · rw [hm] at h; split at h
    · split at h <;> simp at h
    · simp at h
  · rfl
theorem gls_pf {p : Pf} (hm : msrS (pfS p) = true) {u : List Int × Int} (hu : u ∈ gls [] (pfS p)) : ∃ q, atPf p u.1 = some q ∧ (pfS q).sub = [] := by
  obtain ⟨q, h1, _, h3, _⟩ := gls_at hm hu
  rw [atS_pf] at h1
  cases h : atPf p u.1 with
  | none => rw [h] at h1; cases h1
  | some q' => rw [h] at h1; cases h1; exact ⟨q', rfl, h3⟩
theorem Apt.of {p : Pf} (hm : msrS (pfS p) = true) (hG : Gls (gls [] (pfS p))) {i j : Nat} {u1 u2 : List Int × Int} (h1 : (gls [] (pfS p))[i]? = some u1) (h2 : (gls [] (pfS p))[j]? = some u2) (hij : i ≠ j) (x y : Pf) : Apt p u1 u2 x y := by
  have m1 := List.mem_of_getElem? h1
  have m2 := List.mem_of_getElem? h2
  have hne := hG.at_ne h1 h2 hij
  obtain ⟨q1, a1, s1⟩ := gls_pf hm m1
  obtain ⟨q2, a2, s2⟩ := gls_pf hm m2
  have hap := apart (t := pfS p) (l := u1.1) (m := u2.1) (q1 := pfS q1) (q2 := pfS q2) (by rw [atS_pf, a1]; rfl) (by rw [atS_pf, a2]; rfl) s1 s2 hne
  obtain ⟨c1, b2⟩ := setPf_comm u1.1 u2.1 p x y q1 q2 a1 a2 hap.1 hap.2
  obtain ⟨_, b1⟩ := setPf_comm u2.1 u1.1 p y x q2 q1 a2 a1 hap.2 hap.1
  have f1 := atPf_setPf u2.1 (setPf p u1.1 x) q2 y b2
  have f2 := atPf_setPf u1.1 (setPf p u2.1 y) q1 x b1
  rw [← c1] at f2
  have E1 := withE_cases (x := x) hm a1
  have E2 := withE_cases (x := y) hm a2
  have cs : ∀ b : Bool, (if b = true then (0 : Int) else 5) = 0 ∨ (if b = true then (0 : Int) else 5) = 5 := fun b => by cases b <;> simp
  refine ⟨by rw [E1]; exact cs _, by rw [E2]; exact cs _, by have := hG.pl _ m1; omega, by have := hG.pl _ m2; omega, fun h k => ?_, fun h k => ?_, fun h k => ?_, fun h k j => ?_, fun h k => ?_⟩
  · obtain ⟨v1, k1⟩ := withE_0 h
    obtain ⟨v2, k2⟩ := withE_0 k
    rw [v1, v2, withE_cases k1 b2, withE_cases k2 b1, c1]
    exact ⟨rfl, cs _⟩
  · obtain ⟨v1, k1⟩ := withE_0 h
    rw [v1] at k ⊢
    obtain ⟨v2, k2⟩ := withE_0 k
    rw [v2]
    have : atE (setPf (setPf p u1.1 x) u2.1 y) u1.1 = 0 := by rw [atE, k2, f2]; rfl
    exact ⟨this, by rw [atV, if_pos this, f2]; rfl⟩
  · obtain ⟨v1, k1⟩ := withE_0 h
    rw [v1] at k ⊢
    obtain ⟨v2, k2⟩ := withE_0 k
    rw [v2]
    have : atE (setPf (setPf p u1.1 x) u2.1 y) u2.1 = 0 := by rw [atE, k2, f1]; rfl
    exact ⟨this, by rw [atV, if_pos this, f1]; rfl⟩
  · obtain ⟨v1, k1⟩ := withE_0 h
    obtain ⟨v2, k2⟩ := withE_0 k
    rw [v1] at j ⊢
    obtain ⟨v3, k3⟩ := withE_0 j
    have : withE (withV p u2.1 y) u1.1 x = 0 := by rw [v2, withE_cases k2 b1, ← c1, k3]; rfl
    obtain ⟨v4, _⟩ := withE_0 this
    rw [v3, v4, v2, c1]
  · obtain ⟨v1, k1⟩ := withE_0 h
    rw [v1] at k ⊢
    obtain ⟨v3, k3⟩ := withE_0 k
    rw [v3]
    refine ⟨k3, fun u hu n1 n2 => ?_⟩
    obtain ⟨pre, post, e1, e2⟩ := gls_set hm m1
    have stay : ∀ {pre post mid : List (List Int × Int)} {v u : List Int × Int}, u ∈ pre ++ v :: post → u.1 ≠ v.1 → u ∈ pre ++ (mid ++ post) := by
      intro pre post mid v u hu hn
      simp only [List.mem_append, List.mem_cons] at hu ⊢
      rcases hu with h | rfl | h
      · exact .inl h
      · exact absurd rfl hn
      · exact .inr (.inr h)
    have hu1 : ∀ u ∈ gls [] (pfS p), u.1 ≠ u1.1 → u ∈ gls [] (pfS (setPf p u1.1 x)) := fun u hu hn => by
      rw [← setS_pf, e2]
      rw [e1] at hu
      exact stay hu hn
    obtain ⟨pre2, post2, e3, e4⟩ := gls_set k1 (hu1 u2 m2 hne.symm)
    rw [← setS_pf, e4]
    have := hu1 u hu n1
    rw [e3] at this
    exact stay this n2
end Go.Proofs.Ytbdnfllpdlbboaa
