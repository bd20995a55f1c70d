import Derived.Test.YtbdnfllpdlbboaaZ24
namespace Go.Proofs.Ytbdnfllpdlbboaa
open Go Go.Zed
attribute [local irreducible] R RO RD OpOk QOk
set_option maxRecDepth 10000
set_option maxHeartbeats 4000000
/-! ### Parts that make a proof too large -/
/-- Wherever it is put, the proof cannot be measured. -/
def Bad (s : ST) : Prop := ∀ (T q : ST) (l : List Int), atS T l = some q → msrS (setS T l s) = false
theorem bad_of {s : ST} (h : ∀ (T : ST) (l : List Int), atS T l = some s → msrS T = true → False) : Bad s := fun T q l hq => by
  cases hm : msrS (setS T l s)
  · rfl
  · exact (h _ l (atS_setS l T q s hq) hm).elim
theorem Bad.self {s : ST} (h : Bad s) : msrS s = false := by
  have := h s s [] (by rw [atS])
  rwa [setS] at this
theorem bad_hole {lab : Int} {x : ST} : Bad (.mk { data := #[63] } lab [x]) := bad_of fun T l h hm => by
  have := (msr_at hm h).2.2
  exact this ⟨isQ_q, by simp⟩
theorem bad_many {r : ByteArray} {lab : Int} {sub : List ST} (h8 : 8 < sub.length) : Bad (.mk r lab sub) := bad_of fun T l h hm => by
  have := (msr_at hm h).2.1
  dsimp only [ST.sub] at this
  omega
theorem bad_deep {s q : ST} {m : List Int} (h41 : 40 < m.length) (hq : atS s m = some q) : Bad s := bad_of fun T l h hm => by
  have h2 : atS T (l ++ m) = some q := by rw [atS_append, h]; exact hq
  have := (msr_at hm h2).1
  rw [List.length_append] at this
  omega
theorem msr_sub {T : ST} {l : List Int} {t : PT} (h : atS T l = some t.st) (hm : msrS T = true) : nodes t ≤ 300 := by
  have hl := (msr_at hm h).1
  obtain ⟨pre, post, k1, k2⟩ := splice sk40 l T [] whole t.st h (sk40_pre (by omega))
  have e := k1 t.st
  rw [k2, List.nil_append] at e
  obtain ⟨h1, h2⟩ := msrS_iff.1 hm
  rw [e] at h1 h2
  have h3 := steps_all t l (wAtS T whole l) fun s hs => by
    have : s.s.fl ∈ fl sk40 l (wAtS T whole l) t.st := by rw [← steps_fl]; exact List.mem_map.2 ⟨s, hs, rfl⟩
    exact (goodF_iff.1 (h2 _ (List.mem_append_right _ (List.mem_append_left _ this)))).1
  have h4 : (fl sk40 l (wAtS T whole l) t.st).length = nodes t := by rw [← steps_fl, List.length_map, h3]
  simp only [List.length_append] at h1
  omega
theorem bad_nodes {t : PT} (h : 300 < nodes t) : Bad t.st := bad_of fun T l hl hm => by
  have := msr_sub hl hm
  omega
/-- What an operation answers to a proof that is not measurable. -/
theorem bad_with {p x : Pf} {l : List Int} {q : Pf} (hm : msrS (pfS p) = true) (h : atPf p l = some q) (hb : Bad (pfS x)) : withE p l x = 5 := by
  rw [withE_cases hm h, ← setS_pf, hb (pfS p) (pfS q) l (by rw [atS_pf, h]; rfl)]; rfl
theorem bad_at {p : Pf} {l : List Int} (h : msrS (pfS p) = false) : atE p l = 2 := by rw [atE, h]; rfl
theorem bad_chk {g : Img} {t : PT} {p : Pf} (hd : Dp g t p) (h : msrS (pfS p) = false) : chk t [] = 2 := by rw [chk, msr_st, hd.st, h]; rfl
theorem none_at {p : Pf} {l : List Int} (hm : msrS (pfS p) = true) (h : atPf p l = none) : atE p l = 6 := by rw [atE, hm, h]; rfl
theorem none_with {p x : Pf} {l : List Int} (hm : msrS (pfS p) = true) (h : atPf p l = none) : withE p l x = 6 := by rw [withE, hm, h]; rfl
theorem atPf_neg {p : Pf} {i : Int} {is : List Int} (h : i < 0) : atPf p (i :: is) = none := by
  obtain ⟨r, f, lab, ss, ms⟩ := p
  rw [atPf, if_neg (by omega)]
theorem atPf_append : ∀ (l m : List Int) (t : Pf), atPf t (l ++ m) = (atPf t l).bind fun q => atPf q m
  | [], m, t => by rw [List.nil_append, atPf]; rfl
  | i :: l, m, .mk r f lab ss ms => by
    rw [List.cons_append, atPf, atPf]
    cases (if 0 ≤ i then ss[i.toNat]? else none) with
    | none => rfl
    | some q => exact atPf_append l m q
theorem atPf_leaf {q : Pf} (h : (pfS q).sub = []) (i : Int) : atPf q [i] = none := by
  obtain ⟨r, f, lab, ss, ms⟩ := q
  rw [pfS, pfSs_map] at h
  have : ss = [] := by simpa using h
  subst this
  rw [atPf]; simp
theorem chk_neg {g : Img} {t : PT} {p : Pf} (hd : Dp g t p) (hm : msrS (pfS p) = true) {a : Option Addr} {n c : Nat} {i : Int} (hi : i < 0) : chk t [⟨a, n, c, [i]⟩] = 6 := by
  have h : atP t [i] = none := by
    cases h : atP t [i] with
    | none => rfl
    | some q =>
      have := atS_pt [i] t
      rw [h, hd.st, atS_pf, atPf_neg hi] at this
      cases this
  rw [chk, msr_st, hd.st, hm]; simp [h]
/-! ### Sixty fours -/
theorem full_ok (F : Frag) (g : Img) : Fc Try.prog 38 #[] [] F g (fun v own' g' => own' = [] ∧ ∃ a c, v = .slice a 60 c ∧ Sl g' 1 a 60 ((List.replicate 60 4).map fun x => [.int .u8 x])) := by
  refine Fc.freezePost (Q := fun v own' _ => ∃ a c, v = .slice a 60 c ∧ own' = [sl 5 1 a 60 c ((List.replicate 60 4).map fun x => [.int .u8 x])]) ?_ ?_
  · refine Fc.of_body (args := []) Try.func38 rfl rfl ?_
    repeat' (first | refine R.seq ?_ | refine R.skip ?_ | refine R.inBlock ?_ | refine R.block ?_ | refine R.condT rfl ?_ | refine R.condF rfl ?_ | refine R.exit rfl ?_ | refine R.label ?_ | (refine R.region (id := 0) ?_; all_goals (refine RO.q0 rfl (QOk.assign rfl) rfl ?_); all_goals refine RO.nil ?_) | (refine R.region (id := 1) ?_; all_goals (refine RO.q0 rfl (QOk.assign rfl) rfl ?_); all_goals refine RO.nil ?_) | (refine R.region (id := 2) ?_; all_goals (refine RO.q0 rfl (QOk.move rfl) rfl ?_); all_goals refine RO.nil ?_))
    refine R.nilSl 5 1 ?_
    refine R.sub (e' := [(2, .int .i64 0), (1, .slice none 0 0)]) (by repeat (first | exact Sub.nil | refine Sub.cons rfl ?_)) ?_
    refine R.loop (fun k e own gx => gx = g ∧ ∃ (j : Nat) (jv : Int) (a : Option Addr) (c : Nat), jv = j ∧ j + k = 60 ∧ own = [sl 5 1 a j c ((List.replicate j (4 : Int)).map fun x => [.int .u8 x])] ∧ e = [(2, .int .i64 jv), (1, .slice a j c)]) ?_ 60 ⟨rfl, 0, 0, none, 0, rfl, by omega, rfl, rfl⟩
    rintro k e own gx ⟨rfl, j, _, a, c, rfl, hjk, rfl, rfl⟩ ih
    rcases Nat.eq_zero_or_pos k with rfl | hk
    · obtain rfl : j = 60 := by omega
      repeat' (first | refine R.seq ?_ | refine R.skip ?_ | refine R.inBlock ?_ | refine R.block ?_ | refine R.condT rfl ?_ | refine R.condF rfl ?_ | refine R.exit rfl ?_ | refine R.label ?_ | (refine R.region (id := 3) ?_; all_goals (first | refine RO.q0 rfl (QOk.cmpT rfl rfl rfl (by first | decide | omega)) rfl ?_ | refine RO.q0 rfl (QOk.cmpF rfl rfl rfl (by first | decide | omega)) rfl ?_ | refine RO.q0 rfl (QOk.strCmp rfl rfl rfl (by first | assumption | rfl)) rfl ?_ | refine RO.q0 rfl (QOk.boolEq rfl rfl) rfl ?_ | refine RO.q0 rfl (QOk.boolNe rfl rfl) rfl ?_ | refine RO.q0 rfl (QOk.sliceNil rfl rfl rfl) rfl ?_ | refine RO.q0 rfl (QOk.sliceNotNil rfl rfl rfl) rfl ?_ | refine RO.q0 rfl (QOk.eqIT rfl rfl rfl (by first | decide | assumption | (simp only [List.cons.injEq]; omega))) rfl ?_ | refine RO.q0 rfl (QOk.eqIF rfl rfl rfl (by first | decide | assumption | (simp only [List.cons.injEq]; omega))) rfl ?_ | refine RO.cmpS rfl rfl rfl rfl (fun h => ?_) (fun h => ?_)); all_goals refine RO.nil ?_) | (refine R.region (id := 6) ?_; all_goals (refine RO.q0 rfl (QOk.move rfl) rfl ?_); all_goals (refine RO.q0 rfl (QOk.assign rfl) rfl ?_); all_goals refine RO.nil ?_))
      exact R.retK Try.func38 rfl (.tmp rfl .nil) (A := [sl 5 1 a 60 c _]) (by repeat (first | exact Pick.nil | apply Pick.cons (by first | exact .here | exact .there .here | exact .there (.there .here) | exact .there (.there (.there .here)) | exact .there (.there (.there (.there .here))) | exact .there (.there (.there (.there (.there .here)))) | exact .there (.there (.there (.there (.there (.there .here))))) | exact .there (.there (.there (.there (.there (.there (.there .here)))))) | exact .there (.there (.there (.there (.there (.there (.there (.there .here))))))) | exact .there (.there (.there (.there (.there (.there (.there (.there (.there .here))))))))))) fun _ => ⟨a, c, rfl, rfl⟩
    · repeat' (first | refine R.seq ?_ | refine R.skip ?_ | refine R.inBlock ?_ | refine R.block ?_ | refine R.condT rfl ?_ | refine R.condF rfl ?_ | refine R.exit rfl ?_ | refine R.label ?_ | (refine R.region (id := 3) ?_; all_goals (first | refine RO.q0 rfl (QOk.cmpT rfl rfl rfl (by first | decide | omega)) rfl ?_ | refine RO.q0 rfl (QOk.cmpF rfl rfl rfl (by first | decide | omega)) rfl ?_ | refine RO.q0 rfl (QOk.strCmp rfl rfl rfl (by first | assumption | rfl)) rfl ?_ | refine RO.q0 rfl (QOk.boolEq rfl rfl) rfl ?_ | refine RO.q0 rfl (QOk.boolNe rfl rfl) rfl ?_ | refine RO.q0 rfl (QOk.sliceNil rfl rfl rfl) rfl ?_ | refine RO.q0 rfl (QOk.sliceNotNil rfl rfl rfl) rfl ?_ | refine RO.q0 rfl (QOk.eqIT rfl rfl rfl (by first | decide | assumption | (simp only [List.cons.injEq]; omega))) rfl ?_ | refine RO.q0 rfl (QOk.eqIF rfl rfl rfl (by first | decide | assumption | (simp only [List.cons.injEq]; omega))) rfl ?_ | refine RO.cmpS rfl rfl rfl rfl (fun h => ?_) (fun h => ?_)); all_goals refine RO.nil ?_) | (refine R.region (id := 4) ?_; all_goals (refine RO.q0 rfl (QOk.move rfl) rfl ?_); all_goals (refine RO.ef rfl (OpOk.buildSlice rfl rfl (fun b => ?_))); all_goals (first | refine RO.ef rfl (OpOk.append1 rfl rfl rfl rfl (by omega) (by simp only [maxLen]; omega) (fun a cap => ?_)) | refine RO.ef rfl (OpOk.appendE rfl rfl (by assumption) (by assumption) rfl (by omega) (by simp only [maxLen]; omega) (fun a cap => ?_))); all_goals (refine RO.q0 rfl (QOk.assign rfl) rfl ?_); all_goals refine RO.nil ?_) | (refine R.region (id := 5) ?_; all_goals (first | refine RO.q0 rfl (QOk.arith rfl rfl rfl (w64 (by omega))) rfl ?_ | refine RO.q0 rfl (QOk.arith rfl rfl rfl (wu8 (by omega))) rfl ?_ | refine RO.q0 rfl (QOk.arith rfl rfl rfl (wu16 (by omega))) rfl ?_ | refine RO.q0 rfl (QOk.arith rfl rfl rfl (wu32 (by omega))) rfl ?_ | refine RO.q0 rfl (QOk.arith rfl rfl rfl (wu64 (by omega))) rfl ?_ | refine RO.q0 rfl (QOk.strAdd rfl rfl) rfl ?_); all_goals (refine RO.q0 rfl (QOk.move rfl) rfl ?_); all_goals refine RO.nil ?_))
      all_goals
        refine R.pick (A := [sl 5 1 _ (j + 1) _ _]) (by repeat (first | exact Pick.nil | apply Pick.cons (by first | exact .here | exact .there .here | exact .there (.there .here) | exact .there (.there (.there .here)) | exact .there (.there (.there (.there .here))) | exact .there (.there (.there (.there (.there .here)))) | exact .there (.there (.there (.there (.there (.there .here))))) | exact .there (.there (.there (.there (.there (.there (.there .here)))))) | exact .there (.there (.there (.there (.there (.there (.there (.there .here))))))) | exact .there (.there (.there (.there (.there (.there (.there (.there (.there .here))))))))))) ?_
        refine R.sub (e' := [(2, .int .i64 _), (1, .slice _ (j + 1) _)]) (by repeat (first | exact Sub.nil | refine Sub.cons rfl ?_)) ?_
        exact ih (k - 1) _ _ _ (by omega) ⟨rfl, j + 1, (j : Int) + 1, _, _, by omega, by omega, by rw [List.replicate_succ', List.map_append]; rfl, rfl⟩
  · rintro v o g' ⟨a, c, rfl, rfl⟩ g2 hle hf
    exact ⟨rfl, a, c, rfl, hf.sl⟩
section
variable {c : Cx} {g : Img} {D : List Deferred} {ty : TypeId} {e : List (Nat × Value)} {own r : List HProp} {K : Value → List HProp → Img → Prop} {xs : List Operand} {ats : Array TypeId} {fid N : Nat} {F0 : Frag} {g0 : Img} {Post : Value → List HProp → Img → Prop}
theorem c_full (hx : evs e xs = some []) (hK : ∀ g1 a c, Le g g1 → Sl g1 1 a 60 ((List.replicate 60 4).map fun x => [.int .u8 x]) → K (.slice a 60 c) own g1) :
    OpOk (fnCx Try.prog fid N F0 g0 Post) D (.call { callee := .value (.func 38), args := xs.toArray, argTypes := ats }) ty e own g K := by
  refine OpOk.callV (f := 38) (fl := []) (cl := []) rfl hx (fun F => full_ok F g) .nil ?_
  rintro v own' g' hle ⟨rfl, a, c, rfl, hs⟩
  exact hK g' a c hle hs
theorem c_goalsBad {t : PT} (hx : evs e xs = some [.agg t.h.cells.toArray, .slice none 0 0]) (hr : Rep g t) (hc : chk t [] = 2) (hK : ∀ g2, Le g g2 → K (.tuple [.slice none 0 0, .int .i64 2].toArray) own g2) :
    OpOk (fnCx Try.prog fid N F0 g0 Post) D (.call { callee := .value (.func 11), args := xs.toArray, argTypes := ats }) ty e own g K := by
  refine c_goals (ws := []) hx hr pl_nil (by simp) (by simp) (fun _ g2 hle => ?_) (fun _ _ _ _ _ _ h => by rw [hc] at h; omega)
  rw [hc]; exact hK g2 hle
theorem c_progressBad {t : PT} (hx : evs e xs = some [.agg t.h.cells.toArray, .slice none 0 0]) (hr : Rep g t) (hc : chk t [] = 2) (hK : ∀ g2, Le g g2 → K (.tuple [.int .i64 0, .int .i64 2].toArray) own g2) :
    OpOk (fnCx Try.prog fid N F0 g0 Post) D (.call { callee := .value (.func 17), args := xs.toArray, argTypes := ats }) ty e own g K := by
  refine c_progress (ws := []) hx hr pl_nil (by simp) (by simp) (fun _ g2 hle => ?_) (fun _ _ h => by rw [hc] at h; omega)
  rw [hc]; exact hK g2 hle
theorem pl_at {g : Img} {b b2 : Nat} {i : Int} (hb : g.m b = some (.cells #[.slice (some ⟨b2, 0, none⟩) 1 1] 37 (0, 0))) (hb2 : g.m b2 = some (.cells #[.int .i64 i] 3 (0, 0))) : Places g (some ⟨b, 0, none⟩) 1 [⟨some ⟨b2, 0, none⟩, 1, 1, [i]⟩] := by
  refine ⟨slOfC (cs := [.slice (some ⟨b2, 0, none⟩) 1 1]) (es := [[.slice (some ⟨b2, 0, none⟩) 1 1]]) hb rfl (by simp), fun w hw => ?_⟩
  obtain rfl := List.mem_singleton.1 hw
  exact slOfC (cs := [.int .i64 i]) (es := [[.int .i64 i]]) hb2 rfl (by simp)
theorem c_stepsNone {t : PT} {p : Pf} {b b2 : Nat} {i : Int} (hx : evs e xs = some [.agg t.h.cells.toArray, .slice (some ⟨b, 0, none⟩) 1 1]) (hd : Dp g t p) (hm : msrS (pfS p) = true) (hi : i < 0)
    (hb : g.m b = some (.cells #[.slice (some ⟨b2, 0, none⟩) 1 1] 37 (0, 0))) (hb2 : g.m b2 = some (.cells #[.int .i64 i] 3 (0, 0))) (hK : ∀ g2, Le g g2 → K (.tuple [.int .i64 0, .int .i64 6].toArray) own g2) :
    OpOk (fnCx Try.prog fid N F0 g0 Post) D (.call { callee := .value (.func 16), args := xs.toArray, argTypes := ats }) ty e own g K := by
  refine c_steps (ws := [⟨some ⟨b2, 0, none⟩, 1, 1, [i]⟩]) hx hd.rep (pl_at hb hb2) (by simp) (by simp) fun g2 hle => ?_
  rw [chk_neg hd hm hi, if_neg (by decide)]; exact hK g2 hle
end
theorem sl_snoc {g : Img} {a : Option Addr} {n : Nat} {l : List Int} {v : Int} (h : Sl g 1 a n (ints l ++ [[.int .i64 v]])) : Sl g 1 a n (ints (l ++ [v])) := by
  rw [ints, List.map_append]; exact h
theorem sl_one {g : Img} {b : Nat} {v : Int} (h : g.m b = some (.cells #[.int .i64 v] 3 (0, 0))) : Sl g 1 (some ⟨b, 0, none⟩) 1 (ints [v]) := slOfC (cs := [.int .i64 v]) (es := [[.int .i64 v]]) h rfl (by simp)
end Go.Proofs.Ytbdnfllpdlbboaa
