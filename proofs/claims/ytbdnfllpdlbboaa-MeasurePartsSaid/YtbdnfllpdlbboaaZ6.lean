import Derived.Test.YtbdnfllpdlbboaaZ5
namespace Go.Proofs.Ytbdnfllpdlbboaa
open Go Go.Zed
attribute [local irreducible] R RO RD OpOk QOk
set_option maxRecDepth 10000
set_option maxHeartbeats 4000000
mutual
def nodes : PT → Nat
  | .mk _ sub => 1 + nodesL sub
def nodesL : List PT → Nat
  | [] => 0
  | t :: ts => nodes t + nodesL ts
end
mutual
theorem steps_len (skip : List Int → Bool) : ∀ (t : PT) (place : List Int) (w : Int), (steps skip place w t).length ≤ nodes t
  | .mk h sub, place, w => by
    rw [steps, nodes, List.length_cons]
    split
    · simp
    · have := stepsL_len skip sub place (w / (2 * sub.length)) 0; omega
theorem stepsL_len (skip : List Int → Bool) : ∀ (l : List PT) (place : List Int) (w i : Int), (stepsL skip place w i l).length ≤ nodesL l
  | [], _, _, _ => by rw [stepsL, nodesL]; simp
  | t :: ts, place, w, i => by
    rw [stepsL, nodesL, List.length_append]
    have h1 := steps_len skip t (place ++ [i]) w
    have h2 := stepsL_len skip ts place w (i + 1)
    omega
end
mutual
theorem steps_pl (skip : List Int → Bool) : ∀ (t : PT) (place : List Int) (w : Int), ∀ s ∈ steps skip place w t, s.place.length < place.length + nodes t
  | .mk h sub, place, w, s, hs => by
    rw [steps, List.mem_cons] at hs
    rw [nodes]
    rcases hs with rfl | hs
    · dsimp only; omega
    · split at hs
      · cases hs
      · have := stepsL_pl skip sub place _ 0 s hs; omega
theorem stepsL_pl (skip : List Int → Bool) : ∀ (l : List PT) (place : List Int) (w i : Int), ∀ s ∈ stepsL skip place w i l, s.place.length < place.length + 1 + nodesL l
  | [], _, _, _, s, hs => by rw [stepsL] at hs; cases hs
  | t :: ts, place, w, i, s, hs => by
    rw [stepsL, List.mem_append] at hs
    rw [nodesL]
    rcases hs with hs | hs
    · have := steps_pl skip t (place ++ [i]) w s hs; simp at this; omega
    · have := stepsL_pl skip ts place w (i + 1) s hs; omega
end
mutual
theorem steps_all : ∀ (t : PT) (place : List Int) (w : Int), (∀ s ∈ steps sk40 place w t, s.place.length ≤ 40) → (steps sk40 place w t).length = nodes t
  | .mk h sub, place, w, hall => by
    rw [steps] at hall ⊢
    have h0 := hall _ (List.mem_cons_self ..)
    have hk : ¬ sk40 place = true := by simp [sk40]; dsimp only at h0; omega
    rw [if_neg hk] at hall ⊢
    rw [nodes, List.length_cons, stepsL_all sub place _ 0 (fun s hs => hall s (List.mem_cons_of_mem _ hs))]
    omega
theorem stepsL_all : ∀ (l : List PT) (place : List Int) (w i : Int), (∀ s ∈ stepsL sk40 place w i l, s.place.length ≤ 40) → (stepsL sk40 place w i l).length = nodesL l
  | [], _, _, _, _ => by rw [stepsL, nodesL]; rfl
  | t :: ts, place, w, i, hall => by
    rw [stepsL] at hall ⊢
    rw [nodesL, List.length_append, steps_all t _ w (fun s hs => hall s (List.mem_append_left _ hs)), stepsL_all ts place w (i + 1) (fun s hs => hall s (List.mem_append_right _ hs))]
end
theorem msr_nodes {t : PT} (h : msr t = true) : nodes t ≤ 300 := by
  simp only [msr, Bool.and_eq_true, decide_eq_true_eq, List.all_eq_true] at h
  have := steps_all t [] whole (fun s hs => by have := h.2 s hs; obtain ⟨pl, w, ⟨hd, sub⟩⟩ := s; exact (good_iff.1 this).1)
  omega
def skipW (ws : List Wp) (place : List Int) : Bool := ws.any fun w => decide (place = w.l)
theorem steps_bounds {t : PT} (h : msr t = true) (skip : List Int → Bool) : (steps skip [] whole t).length ≤ 300 ∧ ∀ s ∈ steps skip [] whole t, s.place.length ≤ 300 := by
  have h1 := msr_nodes h
  have h2 := steps_len skip t [] whole
  refine ⟨by omega, fun s hs => ?_⟩
  have := steps_pl skip t [] whole s hs
  simp at this; omega
/-- A goal, as it lies. -/
structure Gl where
  (a : Option Addr) (n cap : Nat) (l : List Int) (w : Int)
@[reducible] def Gl.cells (x : Gl) : List Value := [.slice x.a x.n x.cap, .int .i64 x.w]
def isGoal (ws : List Wp) (s : Stp) : Bool := isQ s.p.h.r || skipW ws s.place
def goalsOf (ws : List Wp) (l : List Stp) : List (List Int × Int) := (l.filter (isGoal ws)).map fun s => (s.place, s.w)
def goals (ws : List Wp) (t : PT) : List (List Int × Int) := goalsOf ws (steps (skipW ws) [] whole t)
theorem goalsOf_yes {ws : List Wp} {pre : List Stp} {s : Stp} (h : isGoal ws s = true) : goalsOf ws (pre ++ [s]) = goalsOf ws pre ++ [(s.place, s.w)] := by
  simp [goalsOf, List.filter_append, h]
theorem goalsOf_no {ws : List Wp} {pre : List Stp} {s : Stp} (h : isGoal ws s = false) : goalsOf ws (pre ++ [s]) = goalsOf ws pre := by
  simp [goalsOf, List.filter_append, h]
structure GlRep (g : Img) (gl : List Gl) (l : List (List Int × Int)) : Prop where
  el : ∀ x ∈ gl, Sl g 1 x.a x.n (ints x.l)
  eq : gl.map (fun x => (x.l, x.w)) = l
theorem GlRep.mono {g g' : Img} {gl : List Gl} {l : List (List Int × Int)} (h : GlRep g gl l) (hl : Le g g') : GlRep g' gl l := ⟨fun x hx => (h.el x hx).mono hl, h.eq⟩
section
variable {c : Cx} {g : Img} {D : List Deferred} {ty : TypeId} {e : List (Nat × Value)} {own r : List HProp} {K : Value → List HProp → Img → Prop} {xs : List Operand} {ats : Array TypeId} {fid N : Nat} {F0 : Frag} {g0 : Img} {Post : Value → List HProp → Img → Prop}
theorem c_cloneR {c : Cx} {a : Option Addr} {n cap : Nat} {l : List Int} (hx : evs e xs = some [.slice a n cap]) (hs : Sl g 1 a n (ints l)) (hn : l.length ≤ 1000000000000) (hK : ∀ a' c', K (.slice a' n c') (sl 3 1 a' n c' (ints l) :: own) g) (hP : c.P = Try.prog := by rfl) :
    OpOk c D (.call { callee := .value (.func 44), args := xs.toArray, argTypes := ats }) ty e own g K := by
  obtain ⟨P, f1, f2, f3, f4, f5, f6⟩ := c
  obtain rfl : P = Try.prog := hP
  refine OpOk.callV (f := 44) (fl := []) (cl := []) rfl hx (fun F => clone_ok F g a n cap l hs hn) .nil ?_
  rintro v own' g' _ ⟨rfl, a', c', rfl, rfl⟩
  exact hK a' c'
theorem c_check {t : PT} {a : Option Addr} {n cap : Nat} {ws : List Wp} (hx : evs e xs = some [.agg t.h.cells.toArray, .slice a n cap]) (hr : Rep g t) (hws : Places g a n ws) (hn : ws.length ≤ 1000000000000) (hel : ∀ w ∈ ws, w.l.length ≤ 1000000000000)
    (h1 : ∀ g2, Le g g2 → K (.int .i64 (chk t ws)) own g2) :
    OpOk (fnCx Try.prog fid N F0 g0 Post) D (.call { callee := .value (.func 40), args := xs.toArray, argTypes := ats }) ty e own g K := by
  refine OpOk.callV (f := 40) (fl := []) (cl := []) rfl hx (fun F => check_ok F g t hr hws hn hel) .nil ?_
  rintro v own' g' hle ⟨rfl, rfl⟩
  exact h1 g' hle
end
theorem goals_ok (F : Frag) (g : Img) (t : PT) (hr : Rep g t) {a : Option Addr} {n cap : Nat} {ws : List Wp} (hws : Places g a n ws) (hn : ws.length ≤ 1000000000000) (hel : ∀ w ∈ ws, w.l.length ≤ 1000000000000) :
    Fc Try.prog 11 #[.agg t.h.cells.toArray, .slice a n cap] [] F g (fun v own' g' => own' = [] ∧
      ((chk t ws ≠ 0 ∧ v = .tuple [.slice none 0 0, .int .i64 (chk t ws)].toArray) ∨
       (chk t ws = 0 ∧ ∃ ao no co gl, v = .tuple [.slice ao no co, .int .i64 0].toArray ∧ Sl g' 2 ao no (gl.map Gl.cells) ∧ GlRep g' gl (goals ws t)))) := by
  refine Fc.of_body (args := [_, _]) Try.func11 rfl rfl ?_
  by_cases hc : chk t ws = 0
  · have hm : msr t = true := by
      cases hm : msr t
      · rw [chk, hm] at hc; simp at hc
      · rfl
    obtain ⟨hb1, hb2⟩ := steps_bounds hm (skipW ws)
    repeat' (first | refine R.seq ?_ | refine R.skip ?_ | refine R.inBlock ?_ | refine R.block ?_ | refine R.condT rfl ?_ | refine R.condF rfl ?_ | refine R.exit rfl ?_ | refine R.label ?_ | (refine R.region (id := 0) ?_; all_goals (refine RO.ef rfl (OpOk.box rfl (fun b => ?_))); all_goals (refine RO.ef rfl (OpOk.box rfl (fun b => ?_))); all_goals (refine RO.q0 rfl (QOk.assign rfl) rfl ?_); all_goals (refine RO.q0 rfl (QOk.assign rfl) rfl ?_); all_goals refine RO.nil ?_) | (refine R.region (id := 1) ?_; all_goals (first | refine RO.ld rfl rfl ?_ | refine RO.ldA rfl rfl ?_ | refine RO.ldL rfl rfl (by assumption) ?_ | refine RO.ldLA rfl rfl (by assumption) (by first | rfl | assumption) ?_ | refine RO.ldLW rfl rfl (by assumption) ?_ | refine RO.q0 rfl (QOk.ldM rfl (by assumption)) rfl ?_ | refine RO.q0 rfl (QOk.ldMA rfl (by assumption) (by first | rfl | assumption)) rfl ?_ | refine RO.q0 rfl (QOk.ldMW rfl (by assumption)) rfl ?_ | refine RO.q0 rfl (QOk.ldMWA rfl (by assumption)) rfl ?_ | refine RO.q0 rfl (QOk.ldM0 rfl (by assumption)) rfl ?_ | refine RO.q0 rfl (QOk.ldM0A rfl (by assumption)) rfl ?_ | refine RO.q0 rfl (QOk.loadMem0 rfl (by assumption)) rfl ?_); all_goals (first | refine RO.ld rfl rfl ?_ | refine RO.ldA rfl rfl ?_ | refine RO.ldL rfl rfl (by assumption) ?_ | refine RO.ldLA rfl rfl (by assumption) (by first | rfl | assumption) ?_ | refine RO.ldLW rfl rfl (by assumption) ?_ | refine RO.q0 rfl (QOk.ldM rfl (by assumption)) rfl ?_ | refine RO.q0 rfl (QOk.ldMA rfl (by assumption) (by first | rfl | assumption)) rfl ?_ | refine RO.q0 rfl (QOk.ldMW rfl (by assumption)) rfl ?_ | refine RO.q0 rfl (QOk.ldMWA rfl (by assumption)) rfl ?_ | refine RO.q0 rfl (QOk.ldM0 rfl (by assumption)) rfl ?_ | refine RO.q0 rfl (QOk.ldM0A rfl (by assumption)) rfl ?_ | refine RO.q0 rfl (QOk.loadMem0 rfl (by assumption)) rfl ?_); all_goals (refine RO.ef rfl (c_check rfl hr hws hn hel (fun g2 hle => have hr := hr.mono hle; have hws := hws.mono hle; ?_))); all_goals (refine RO.q0 rfl (QOk.assign rfl) rfl ?_); all_goals refine RO.nil ?_) | (refine R.region (id := 2) ?_; all_goals (refine RO.q0 rfl (QOk.move rfl) rfl ?_); all_goals (first | refine RO.q0 rfl (QOk.cmpT rfl rfl rfl (by first | decide | omega)) rfl ?_ | refine RO.q0 rfl (QOk.cmpF rfl rfl rfl (by first | decide | omega)) rfl ?_ | refine RO.q0 rfl (QOk.strCmp rfl rfl rfl (by first | assumption | rfl)) rfl ?_ | refine RO.q0 rfl (QOk.boolEq rfl rfl) rfl ?_ | refine RO.q0 rfl (QOk.boolNe rfl rfl) rfl ?_ | refine RO.q0 rfl (QOk.sliceNil rfl rfl rfl) rfl ?_ | refine RO.q0 rfl (QOk.sliceNotNil rfl rfl rfl) rfl ?_ | refine RO.q0 rfl (QOk.eqIT rfl rfl rfl (by first | decide | assumption | (simp only [List.cons.injEq]; omega))) rfl ?_ | refine RO.q0 rfl (QOk.eqIF rfl rfl rfl (by first | decide | assumption | (simp only [List.cons.injEq]; omega))) rfl ?_ | refine RO.cmpS rfl rfl rfl rfl (fun h => ?_) (fun h => ?_)); all_goals refine RO.nil ?_) | (refine R.region (id := 4) ?_; all_goals (refine RO.ef rfl (OpOk.alloc (fun b => ?_))); all_goals refine RO.nil ?_) | (refine R.region (id := 5) ?_; all_goals (refine RO.q0 rfl (QOk.makeFunc rfl rfl) rfl ?_); all_goals (refine RO.ef rfl (OpOk.alloc (fun b => ?_))); all_goals (first | refine RO.ef0 (OpOk.store rfl rfl rfl ?_) | refine RO.ef0 (OpOk.storeL rfl rfl rfl (by assumption) ?_)); all_goals refine RO.nil ?_))
    rename_i bt bw bo
    generalize b = bb at *
    refine R.freezeT (b := bb) (o := .cells _ 76 (0, 0)) (by (repeat (first | exact .here | apply Take.there)); (first | done | fail)) fun g3 hle3 hb3 => ?_
    refine R.freezeT (b := bw) (o := .cells _ 28 (0, 0)) (by (repeat (first | exact .here | apply Take.there)); (first | done | fail)) fun g4 hle4 hb4 => ?_
    have mb := (memOf hb3).mono hle4
    have mw := memOf hb4
    have hr := hr.mono (hle3.trans hle4)
    have hws := hws.mono (hle3.trans hle4)
    clear hb3 hb4
    repeat' (first | refine R.seq ?_ | refine R.skip ?_ | refine R.inBlock ?_ | refine R.block ?_ | refine R.condT rfl ?_ | refine R.condF rfl ?_ | refine R.exit rfl ?_ | refine R.label ?_ | (refine R.region (id := 6) ?_; all_goals (first | refine RO.ld rfl rfl ?_ | refine RO.ldA rfl rfl ?_ | refine RO.ldL rfl rfl (by assumption) ?_ | refine RO.ldLA rfl rfl (by assumption) (by first | rfl | assumption) ?_ | refine RO.ldLW rfl rfl (by assumption) ?_ | refine RO.q0 rfl (QOk.ldM rfl (by assumption)) rfl ?_ | refine RO.q0 rfl (QOk.ldMA rfl (by assumption) (by first | rfl | assumption)) rfl ?_ | refine RO.q0 rfl (QOk.ldMW rfl (by assumption)) rfl ?_ | refine RO.q0 rfl (QOk.ldMWA rfl (by assumption)) rfl ?_ | refine RO.q0 rfl (QOk.ldM0 rfl (by assumption)) rfl ?_ | refine RO.q0 rfl (QOk.ldM0A rfl (by assumption)) rfl ?_ | refine RO.q0 rfl (QOk.loadMem0 rfl (by assumption)) rfl ?_); all_goals (first | refine RO.ld rfl rfl ?_ | refine RO.ldA rfl rfl ?_ | refine RO.ldL rfl rfl (by assumption) ?_ | refine RO.ldLA rfl rfl (by assumption) (by first | rfl | assumption) ?_ | refine RO.ldLW rfl rfl (by assumption) ?_ | refine RO.q0 rfl (QOk.ldM rfl (by assumption)) rfl ?_ | refine RO.q0 rfl (QOk.ldMA rfl (by assumption) (by first | rfl | assumption)) rfl ?_ | refine RO.q0 rfl (QOk.ldMW rfl (by assumption)) rfl ?_ | refine RO.q0 rfl (QOk.ldMWA rfl (by assumption)) rfl ?_ | refine RO.q0 rfl (QOk.ldM0 rfl (by assumption)) rfl ?_ | refine RO.q0 rfl (QOk.ldM0A rfl (by assumption)) rfl ?_ | refine RO.q0 rfl (QOk.loadMem0 rfl (by assumption)) rfl ?_); all_goals (refine RO.ef rfl (c_visit rfl hr (fun g5 b2 bp hle5 hm2 hmp => ?_))); all_goals refine RO.nil ?_))
    have mb := mb.mono hle5; have mw := mw.mono hle5; have hr := hr.mono hle5; have hws := hws.mono hle5
    have hS : ∀ g1, Le g5 g1 → ∀ a3 n3 cap3 place, place.length ≤ 1000 → Sl g1 1 a3 n3 (ints place) → Cv Try.prog (.func (.func 41) #[] #[.pointer (some ⟨bw, 0, none⟩)]) [.slice a3 n3 cap3] [] g1 (fun v own' g2 => own' = [] ∧ g2 = g1 ∧ v = .bool (skipW ws place)) :=
      fun g1 h1 a3 n3 cap3 place hp hs => Cv.ofFc (fl := []) (cl := [_]) fun F => bad_ok F g1 (mw.mono h1) ⟨hws.mono h1, hn⟩ ⟨hs, by omega⟩
    let Jf : List Stp → Img → List HProp → Prop := fun pre g1 L => ∃ ao no co gl, L = [cel bo 32 [.slice ao no co], sl 39 2 ao no co (gl.map Gl.cells)] ∧ GlRep g1 gl (goalsOf ws pre) ∧ no ≤ pre.length
    let Xf : Code → List HProp → Prop := fun _ _ => False
    refine R.pick (A := [cel bo 32 _]) (by repeat (first | exact Pick.nil | apply Pick.cons (by (repeat (first | exact .here | apply Take.there)); (first | done | fail)))) ?_
    refine R.sub (e' := [(19, .func (.func 60) #[] #[.pointer (some ⟨b2, 0, none⟩), .pointer (some ⟨bp, 0, none⟩)]), (8, .pointer (some ⟨bb, 0, none⟩)), (7, .pointer (some ⟨bo, 0, none⟩))]) (by repeat (first | exact Sub.nil | refine Sub.cons rfl ?_)) ?_
    refine R.nilSl 39 2 ?_
    refine R.swap ?_
    refine R.closeEx (own := []) (L := [cel bo 32 [.slice none 0 0], sl 39 2 none 0 0 []]) (φ := Jf [] g5) ⟨none, 0, 0, [], rfl, ⟨by simp, rfl⟩, by simp⟩ ?_
    refine R.rangeIter (ts := [20]) (Own := []) (B := []) (fun pre g1 => ex (Jf pre g1)) (fun code _ => ex (Xf code)) rfl rfl (visit_iter hm2 hmp hr hS (fun s hs => Nat.le_trans (hb2 s hs) (by omega))) rfl
      (fun x g1 vs ⟨a, n, cap, h, _⟩ => by rw [h]; rfl) rfl (fun _ g1 g2 hl fr ⟨L, ⟨ao, no, co, gl, h1, h2, h3⟩, h4⟩ => ⟨L, ⟨ao, no, co, gl, h1, h2.mono hl, h3⟩, h4⟩) (fun _ _ _ _ _ h => h) (.refl _) ?_ ?_ ?_
    · rintro pre ⟨place, w, ⟨hd, sub⟩⟩ post g1 vs hall hle1 ⟨ax, nx, cx, rfl, hpl, hrp⟩ l r F
      have hin : (⟨place, w, .mk hd sub⟩ : Stp) ∈ steps (skipW ws) [] whole t := by rw [hall]; simp
      have hdp : place.length ≤ 300 := hb2 _ hin
      have hdp2 : place.length ≤ 1000000000000 := by omega
      have hplen : pre.length + 1 ≤ 300 := by have := hb1; rw [hall] at this; simp at this; omega
      have hcB : Cv Try.prog (.func (.func 41) #[] #[.pointer (some ⟨bw, 0, none⟩)]) [.slice ax nx cx] [] g1 (fun v own' g2 => own' = [] ∧ g2 = g1 ∧ v = .bool (skipW ws place)) := hS g1 hle1 ax nx cx place (by omega) hpl
      have mb := mb.mono hle1
      refine R.swap (R.openEx ?_)
      rintro L ⟨ao, no, co, gl, rfl, hgl, hno⟩
      dsimp only [List.cons_append, List.nil_append, putL, PT.h] at hcB hpl ⊢
      repeat' (first | refine R.seq ?_ | refine R.skip ?_ | refine R.inBlock ?_ | refine R.block ?_ | refine R.condT rfl ?_ | refine R.condF rfl ?_ | refine R.exit rfl ?_ | refine R.label ?_ | (refine R.region (id := 7) ?_; all_goals (refine RO.ef rfl (OpOk.alloc (fun b => ?_))); all_goals (first | refine RO.ef0 (OpOk.store rfl rfl rfl ?_) | refine RO.ef0 (OpOk.storeL rfl rfl rfl (by assumption) ?_)); all_goals refine RO.nil ?_))
      refine R.begin rfl (by (repeat (first | exact .here | apply Take.there)); (first | done | fail)) ?_
      cases hq : isQ hd.r
      all_goals cases hb : skipW ws place
      all_goals rw [hb] at hcB
      all_goals repeat' (first | refine R.seq ?_ | refine R.skip ?_ | refine R.inBlock ?_ | refine R.block ?_ | refine R.condT rfl ?_ | refine R.condF rfl ?_ | refine R.exit rfl ?_ | refine R.label ?_ | (refine R.region (id := 8) ?_; all_goals (first | refine RO.q0 rfl (QOk.fieldAddr0 rfl rfl) rfl ?_ | refine RO.q0 rfl (QOk.fieldAddrZ rfl rfl) rfl ?_ | refine RO.q0 rfl (QOk.fieldAddr rfl rfl) rfl ?_); all_goals (first | refine RO.q0 rfl (QOk.fieldAddr0 rfl rfl) rfl ?_ | refine RO.q0 rfl (QOk.fieldAddrZ rfl rfl) rfl ?_ | refine RO.q0 rfl (QOk.fieldAddr rfl rfl) rfl ?_); all_goals (first | refine RO.ld rfl rfl ?_ | refine RO.ldA rfl rfl ?_ | refine RO.ldL rfl rfl (by assumption) ?_ | refine RO.ldLA rfl rfl (by assumption) (by first | rfl | assumption) ?_ | refine RO.ldLW rfl rfl (by assumption) ?_ | refine RO.q0 rfl (QOk.ldM rfl (by assumption)) rfl ?_ | refine RO.q0 rfl (QOk.ldMA rfl (by assumption) (by first | rfl | assumption)) rfl ?_ | refine RO.q0 rfl (QOk.ldMW rfl (by assumption)) rfl ?_ | refine RO.q0 rfl (QOk.ldMWA rfl (by assumption)) rfl ?_ | refine RO.q0 rfl (QOk.ldM0 rfl (by assumption)) rfl ?_ | refine RO.q0 rfl (QOk.ldM0A rfl (by assumption)) rfl ?_ | refine RO.q0 rfl (QOk.loadMem0 rfl (by assumption)) rfl ?_); all_goals (first | refine RO.q0 rfl (QOk.cmpT rfl rfl rfl (by first | decide | omega)) rfl ?_ | refine RO.q0 rfl (QOk.cmpF rfl rfl rfl (by first | decide | omega)) rfl ?_ | refine RO.q0 rfl (QOk.strCmp rfl rfl rfl (by first | assumption | rfl)) rfl ?_ | refine RO.q0 rfl (QOk.boolEq rfl rfl) rfl ?_ | refine RO.q0 rfl (QOk.boolNe rfl rfl) rfl ?_ | refine RO.q0 rfl (QOk.sliceNil rfl rfl rfl) rfl ?_ | refine RO.q0 rfl (QOk.sliceNotNil rfl rfl rfl) rfl ?_ | refine RO.q0 rfl (QOk.eqIT rfl rfl rfl (by first | decide | assumption | (simp only [List.cons.injEq]; omega))) rfl ?_ | refine RO.q0 rfl (QOk.eqIF rfl rfl rfl (by first | decide | assumption | (simp only [List.cons.injEq]; omega))) rfl ?_ | refine RO.cmpS rfl rfl rfl rfl (fun h => ?_) (fun h => ?_)); all_goals (refine RO.q0 rfl (QOk.move rfl) rfl ?_); all_goals (first | refine RO.offT rfl rfl rfl ?_ | refine RO.offU rfl rfl rfl ?_ | refine RO.gld rfl rfl rfl rfl ?_ | refine RO.gldA rfl rfl rfl rfl ?_ | refine RO.gq0 rfl rfl rfl (QOk.ldM rfl (by assumption)) rfl ?_ | refine RO.gq0 rfl rfl rfl (QOk.ldMA rfl (by assumption) (by first | rfl | assumption)) rfl ?_ | refine RO.gq0 rfl rfl rfl (QOk.ldMW rfl (by assumption)) rfl ?_ | refine RO.gq0 rfl rfl rfl (QOk.ldMWA rfl (by assumption)) rfl ?_ | refine RO.gq0 rfl rfl rfl (QOk.ldM0 rfl (by assumption)) rfl ?_ | refine RO.gq0 rfl rfl rfl (QOk.ldM0A rfl (by assumption)) rfl ?_ | refine RO.gq0 rfl rfl rfl (QOk.loadMem0 rfl (by assumption)) rfl ?_); all_goals (first | refine RO.offT rfl rfl rfl ?_ | refine RO.offU rfl rfl rfl ?_ | refine RO.gq0 rfl rfl rfl (QOk.fieldAddr0 rfl rfl) rfl ?_ | refine RO.gq0 rfl rfl rfl (QOk.fieldAddrZ rfl rfl) rfl ?_ | refine RO.gq0 rfl rfl rfl (QOk.fieldAddr rfl rfl) rfl ?_); all_goals (first | refine RO.offT rfl rfl rfl ?_ | refine RO.offU rfl rfl rfl ?_ | refine RO.gld rfl rfl rfl rfl ?_ | refine RO.gldA rfl rfl rfl rfl ?_ | refine RO.gq0 rfl rfl rfl (QOk.ldM rfl (by assumption)) rfl ?_ | refine RO.gq0 rfl rfl rfl (QOk.ldMA rfl (by assumption) (by first | rfl | assumption)) rfl ?_ | refine RO.gq0 rfl rfl rfl (QOk.ldMW rfl (by assumption)) rfl ?_ | refine RO.gq0 rfl rfl rfl (QOk.ldMWA rfl (by assumption)) rfl ?_ | refine RO.gq0 rfl rfl rfl (QOk.ldM0 rfl (by assumption)) rfl ?_ | refine RO.gq0 rfl rfl rfl (QOk.ldM0A rfl (by assumption)) rfl ?_ | refine RO.gq0 rfl rfl rfl (QOk.loadMem0 rfl (by assumption)) rfl ?_); all_goals (first | refine RO.offT rfl rfl rfl ?_ | refine RO.offU rfl rfl rfl ?_ | refine RO.gef rfl rfl rfl (OpOk.callPure rfl rfl hcB ?_)); all_goals (first | refine RO.q0 rfl (QOk.pickT rfl rfl) rfl ?_ | refine RO.q0 rfl (QOk.pickF rfl rfl) rfl ?_); all_goals refine RO.nil ?_) | (refine R.draw (id := 9) [⟨0, 1, []⟩, ⟨1, 1, []⟩, ⟨2, 1, []⟩, ⟨4, 1, []⟩, ⟨5, 1, []⟩, ⟨3, 0, [0, 4, 5]⟩, ⟨6, 1, []⟩, ⟨7, 0, [0]⟩, ⟨8, 0, []⟩, ⟨9, 0, []⟩] (fl := []) mo (Floats.nil) (by decide +kernel) ?_; all_goals (first | refine RD.ld rfl rfl rfl ?_ | refine RD.ldA rfl rfl rfl ?_ | refine RD.q0 rfl rfl (QOk.ldM rfl (by assumption)) rfl ?_ | refine RD.q0 rfl rfl (QOk.ldMA rfl (by assumption) (by first | rfl | assumption)) rfl ?_ | refine RD.q0 rfl rfl (QOk.ldMW rfl (by assumption)) rfl ?_ | refine RD.q0 rfl rfl (QOk.ldMWA rfl (by assumption)) rfl ?_ | refine RD.q0 rfl rfl (QOk.ldM0 rfl (by assumption)) rfl ?_ | refine RD.q0 rfl rfl (QOk.ldM0A rfl (by assumption)) rfl ?_ | refine RD.q0 rfl rfl (QOk.loadMem0 rfl (by assumption)) rfl ?_); all_goals (first | refine RD.q0 rfl rfl (QOk.fieldAddr0 rfl rfl) rfl ?_ | refine RD.q0 rfl rfl (QOk.fieldAddrZ rfl rfl) rfl ?_ | refine RD.q0 rfl rfl (QOk.fieldAddr rfl rfl) rfl ?_); all_goals (first | refine RD.ld rfl rfl rfl ?_ | refine RD.ldA rfl rfl rfl ?_ | refine RD.q0 rfl rfl (QOk.ldM rfl (by assumption)) rfl ?_ | refine RD.q0 rfl rfl (QOk.ldMA rfl (by assumption) (by first | rfl | assumption)) rfl ?_ | refine RD.q0 rfl rfl (QOk.ldMW rfl (by assumption)) rfl ?_ | refine RD.q0 rfl rfl (QOk.ldMWA rfl (by assumption)) rfl ?_ | refine RD.q0 rfl rfl (QOk.ldM0 rfl (by assumption)) rfl ?_ | refine RD.q0 rfl rfl (QOk.ldM0A rfl (by assumption)) rfl ?_ | refine RD.q0 rfl rfl (QOk.loadMem0 rfl (by assumption)) rfl ?_); all_goals (first | refine RD.q0 rfl rfl (QOk.fieldAddr0 rfl rfl) rfl ?_ | refine RD.q0 rfl rfl (QOk.fieldAddrZ rfl rfl) rfl ?_ | refine RD.q0 rfl rfl (QOk.fieldAddr rfl rfl) rfl ?_); all_goals (first | refine RD.ld rfl rfl rfl ?_ | refine RD.ldA rfl rfl rfl ?_ | refine RD.q0 rfl rfl (QOk.ldM rfl (by assumption)) rfl ?_ | refine RD.q0 rfl rfl (QOk.ldMA rfl (by assumption) (by first | rfl | assumption)) rfl ?_ | refine RD.q0 rfl rfl (QOk.ldMW rfl (by assumption)) rfl ?_ | refine RD.q0 rfl rfl (QOk.ldMWA rfl (by assumption)) rfl ?_ | refine RD.q0 rfl rfl (QOk.ldM0 rfl (by assumption)) rfl ?_ | refine RD.q0 rfl rfl (QOk.ldM0A rfl (by assumption)) rfl ?_ | refine RD.q0 rfl rfl (QOk.loadMem0 rfl (by assumption)) rfl ?_); all_goals ((refine RD.ef rfl rfl (c_cloneR rfl hpl hdp2 (fun a' c' => ?_)) <;> refine And.intro (by repeat (first | exact Locks.nil | refine Locks.cons0 ?_ | refine Locks.cons1 ?_)) ?_)); all_goals (refine RD.q0 rfl rfl (QOk.build rfl) rfl ?_); all_goals ((refine RD.ef rfl rfl (OpOk.buildSlice rfl rfl (fun b => ?_)) <;> refine And.intro (by repeat (first | exact Locks.nil | refine Locks.cons0 ?_ | refine Locks.cons1 ?_)) ?_)); all_goals (first | (refine RD.ef rfl rfl (OpOk.append1 rfl rfl rfl rfl (by omega) (by simp only [maxLen]; omega) (fun a cap => ?_)) <;> refine And.intro (by repeat (first | exact Locks.nil | refine Locks.cons0 ?_ | refine Locks.cons1 ?_)) ?_) | (refine RD.ef rfl rfl (OpOk.appendE rfl rfl (by assumption) (by assumption) rfl (by omega) (by simp only [maxLen]; omega) (fun a cap => ?_)) <;> refine And.intro (by repeat (first | exact Locks.nil | refine Locks.cons0 ?_ | refine Locks.cons1 ?_)) ?_)); all_goals ((first | refine RD.ef0 rfl (OpOk.store rfl rfl rfl ?_) | refine RD.ef0 rfl (OpOk.storeL rfl rfl rfl (by assumption) ?_)); all_goals (refine And.intro (by repeat (first | exact Locks.nil | refine Locks.cons0 ?_ | refine Locks.cons1 ?_)) ?_)); all_goals (refine RD.nil ?_)))
      · have hno' : isGoal ws ⟨place, w, .mk hd sub⟩ = false := by rw [isGoal, PT.h, hq, hb]; rfl
        refine R.pick (A := [cel bo 32 _, sl 39 2 _ _ _ _, lp l r .busy none]) (by repeat (first | exact Pick.nil | apply Pick.cons (by (repeat (first | exact .here | apply Take.there)); (first | done | fail)))) ?_
        refine R.closeEx (L := [cel bo 32 _, sl 39 2 _ _ _ _]) (φ := Jf (pre ++ [⟨place, w, .mk hd sub⟩]) g1) ⟨_, _, _, gl, rfl, by rw [goalsOf_no hno']; exact hgl, by simp; omega⟩ ?_
        refine R.next (l := l) (r := r) (pe := none) (A := [ex (Jf (pre ++ [⟨place, w, .mk hd sub⟩]) g1)]) (by repeat (first | exact Pick.nil | apply Pick.cons (by (repeat (first | exact .here | apply Take.there)); (first | done | fail)))) ?_
        exact fun _ => Or.inl ⟨rfl, rfl⟩
      all_goals
        have hyes : isGoal ws ⟨place, w, .mk hd sub⟩ = true := by rw [isGoal, PT.h, hq, hb]; rfl
        refine R.freezeSlT (T := 3) (sz := 1) a' fun g6 hle6 hsl6 => ?_
        refine R.pick (A := [cel bo 32 _, sl 39 2 _ _ _ _, lp l r .busy none]) (by repeat (first | exact Pick.nil | apply Pick.cons (by (repeat (first | exact .here | apply Take.there)); (first | done | fail)))) ?_
        refine R.closeEx (L := [cel bo 32 _, sl 39 2 _ _ _ _]) (φ := Jf (pre ++ [⟨place, w, .mk hd sub⟩]) g6) ⟨_, _, _, gl ++ [⟨a', nx, c', place, w⟩], by rw [List.map_append]; rfl, ?_, by simp; omega⟩ ?_
        · rw [goalsOf_yes hyes]
          refine ⟨fun x hx => ?_, by rw [List.map_append, hgl.eq]; rfl⟩
          rcases List.mem_append.1 hx with hx | hx
          · exact (hgl.el x hx).mono hle6
          · obtain rfl := List.mem_singleton.1 hx; exact hsl6
        · refine R.next (l := l) (r := r) (pe := none) (A := [ex (Jf (pre ++ [⟨place, w, .mk hd sub⟩]) g6)]) (by repeat (first | exact Pick.nil | apply Pick.cons (by (repeat (first | exact .here | apply Take.there)); (first | done | fail)))) ?_
          exact fun _ => Or.inl ⟨rfl, rfl⟩
    · intro r0 g3 hle3
      refine R.swap (R.openEx ?_)
      rintro L ⟨ao, no, co, gl, rfl, hgl, hno⟩
      dsimp only [List.cons_append, List.nil_append]
      repeat' (first | refine R.seq ?_ | refine R.skip ?_ | refine R.inBlock ?_ | refine R.block ?_ | refine R.condT rfl ?_ | refine R.condF rfl ?_ | refine R.exit rfl ?_ | refine R.label ?_ | (refine R.region (id := 10) ?_; all_goals (first | refine RO.ld rfl rfl ?_ | refine RO.ldA rfl rfl ?_ | refine RO.ldL rfl rfl (by assumption) ?_ | refine RO.ldLA rfl rfl (by assumption) (by first | rfl | assumption) ?_ | refine RO.ldLW rfl rfl (by assumption) ?_ | refine RO.q0 rfl (QOk.ldM rfl (by assumption)) rfl ?_ | refine RO.q0 rfl (QOk.ldMA rfl (by assumption) (by first | rfl | assumption)) rfl ?_ | refine RO.q0 rfl (QOk.ldMW rfl (by assumption)) rfl ?_ | refine RO.q0 rfl (QOk.ldMWA rfl (by assumption)) rfl ?_ | refine RO.q0 rfl (QOk.ldM0 rfl (by assumption)) rfl ?_ | refine RO.q0 rfl (QOk.ldM0A rfl (by assumption)) rfl ?_ | refine RO.q0 rfl (QOk.loadMem0 rfl (by assumption)) rfl ?_); all_goals (refine RO.q0 rfl (QOk.assign rfl) rfl ?_); all_goals (refine RO.q0 rfl (QOk.assign rfl) rfl ?_); all_goals refine RO.nil ?_))
      refine R.freezeSlT (T := 39) (sz := 2) ao fun g6 hle6 hsl6 => ?_
      exact R.retM Try.func11 rfl (A := []) (by repeat (first | exact Pick.nil | apply Pick.cons (by (repeat (first | exact .here | apply Take.there)); (first | done | fail)))) (.tmp rfl (.tmp rfl .nil)) .nil fun _ => ⟨rfl, .inr ⟨hc, ao, no, co, gl, rfl, hsl6, hgl.mono hle6⟩⟩
    · rintro r0 code g2 hle2
      refine R.swap (R.openEx ?_)
      rintro L h
      exact h.elim
  · repeat' (first | refine R.seq ?_ | refine R.skip ?_ | refine R.inBlock ?_ | refine R.block ?_ | refine R.condT rfl ?_ | refine R.condF rfl ?_ | refine R.exit rfl ?_ | refine R.label ?_ | (refine R.region (id := 0) ?_; all_goals (refine RO.ef rfl (OpOk.box rfl (fun b => ?_))); all_goals (refine RO.ef rfl (OpOk.box rfl (fun b => ?_))); all_goals (refine RO.q0 rfl (QOk.assign rfl) rfl ?_); all_goals (refine RO.q0 rfl (QOk.assign rfl) rfl ?_); all_goals refine RO.nil ?_) | (refine R.region (id := 1) ?_; all_goals (first | refine RO.ld rfl rfl ?_ | refine RO.ldA rfl rfl ?_ | refine RO.ldL rfl rfl (by assumption) ?_ | refine RO.ldLA rfl rfl (by assumption) (by first | rfl | assumption) ?_ | refine RO.ldLW rfl rfl (by assumption) ?_ | refine RO.q0 rfl (QOk.ldM rfl (by assumption)) rfl ?_ | refine RO.q0 rfl (QOk.ldMA rfl (by assumption) (by first | rfl | assumption)) rfl ?_ | refine RO.q0 rfl (QOk.ldMW rfl (by assumption)) rfl ?_ | refine RO.q0 rfl (QOk.ldMWA rfl (by assumption)) rfl ?_ | refine RO.q0 rfl (QOk.ldM0 rfl (by assumption)) rfl ?_ | refine RO.q0 rfl (QOk.ldM0A rfl (by assumption)) rfl ?_ | refine RO.q0 rfl (QOk.loadMem0 rfl (by assumption)) rfl ?_); all_goals (first | refine RO.ld rfl rfl ?_ | refine RO.ldA rfl rfl ?_ | refine RO.ldL rfl rfl (by assumption) ?_ | refine RO.ldLA rfl rfl (by assumption) (by first | rfl | assumption) ?_ | refine RO.ldLW rfl rfl (by assumption) ?_ | refine RO.q0 rfl (QOk.ldM rfl (by assumption)) rfl ?_ | refine RO.q0 rfl (QOk.ldMA rfl (by assumption) (by first | rfl | assumption)) rfl ?_ | refine RO.q0 rfl (QOk.ldMW rfl (by assumption)) rfl ?_ | refine RO.q0 rfl (QOk.ldMWA rfl (by assumption)) rfl ?_ | refine RO.q0 rfl (QOk.ldM0 rfl (by assumption)) rfl ?_ | refine RO.q0 rfl (QOk.ldM0A rfl (by assumption)) rfl ?_ | refine RO.q0 rfl (QOk.loadMem0 rfl (by assumption)) rfl ?_); all_goals (refine RO.ef rfl (c_check rfl hr hws hn hel (fun g2 hle => have hr := hr.mono hle; have hws := hws.mono hle; ?_))); all_goals (refine RO.q0 rfl (QOk.assign rfl) rfl ?_); all_goals refine RO.nil ?_) | (refine R.region (id := 2) ?_; all_goals (refine RO.q0 rfl (QOk.move rfl) rfl ?_); all_goals (first | refine RO.q0 rfl (QOk.cmpT rfl rfl rfl (by first | decide | omega)) rfl ?_ | refine RO.q0 rfl (QOk.cmpF rfl rfl rfl (by first | decide | omega)) rfl ?_ | refine RO.q0 rfl (QOk.strCmp rfl rfl rfl (by first | assumption | rfl)) rfl ?_ | refine RO.q0 rfl (QOk.boolEq rfl rfl) rfl ?_ | refine RO.q0 rfl (QOk.boolNe rfl rfl) rfl ?_ | refine RO.q0 rfl (QOk.sliceNil rfl rfl rfl) rfl ?_ | refine RO.q0 rfl (QOk.sliceNotNil rfl rfl rfl) rfl ?_ | refine RO.q0 rfl (QOk.eqIT rfl rfl rfl (by first | decide | assumption | (simp only [List.cons.injEq]; omega))) rfl ?_ | refine RO.q0 rfl (QOk.eqIF rfl rfl rfl (by first | decide | assumption | (simp only [List.cons.injEq]; omega))) rfl ?_ | refine RO.cmpS rfl rfl rfl rfl (fun h => ?_) (fun h => ?_)); all_goals refine RO.nil ?_) | (refine R.region (id := 3) ?_; all_goals (refine RO.q0 rfl (QOk.move rfl) rfl ?_); all_goals (refine RO.q0 rfl (QOk.assign rfl) rfl ?_); all_goals (refine RO.q0 rfl (QOk.assign rfl) rfl ?_); all_goals refine RO.nil ?_))
    exact R.ret0 Try.func11 rfl (.tmp rfl (.tmp rfl .nil)) fun _ => ⟨rfl, .inl ⟨hc, rfl⟩⟩
end Go.Proofs.Ytbdnfllpdlbboaa
