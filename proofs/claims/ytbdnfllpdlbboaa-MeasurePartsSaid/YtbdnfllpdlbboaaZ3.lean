import Derived.Test.YtbdnfllpdlbboaaZ2
namespace Go.Proofs.Ytbdnfllpdlbboaa
open Go Go.Zed
attribute [local irreducible] R RO RD OpOk QOk
set_option maxRecDepth 10000
set_option maxHeartbeats 4000000
theorem memOf {g : Img} {b T : Nat} {cs : List Value} (h : g.m b = some (.cells cs.toArray T (0, 0))) : Mem g b 0 cs := ⟨_, _, _, h, fun j v hv => by simpa using hv⟩
theorem visit_ok (F : Frag) (g : Img) (cs : List Value) (h : PH) (hcs : cs = h.cells) (skf : Go.Fn) (ska skc : Array Value) :
    Fc Try.prog 43 #[.agg cs.toArray, .func skf ska skc] [] F g (fun v own' g' => own' = [] ∧ ∃ b2 bp, v = .func (.func 60) #[] [.pointer (some ⟨b2, 0, none⟩), .pointer (some ⟨bp, 0, none⟩)].toArray ∧ Mem g' b2 0 [.func skf ska skc] ∧ Mem g' bp 0 cs) := by
  subst hcs
  refine Fc.of_body (args := [_, _]) Try.func43 rfl rfl ?_
  repeat' (first | refine R.seq ?_ | refine R.skip ?_ | refine R.inBlock ?_ | refine R.block ?_ | refine R.condT rfl ?_ | refine R.condF rfl ?_ | refine R.exit rfl ?_ | refine R.label ?_ | (refine R.region (id := 0) ?_; all_goals (refine RO.ef rfl (OpOk.box rfl (fun b => ?_))); all_goals (refine RO.ef rfl (OpOk.box rfl (fun b => ?_))); all_goals (refine RO.q0 rfl (QOk.assign rfl) rfl ?_); all_goals refine RO.nil ?_) | (refine R.region (id := 1) ?_; all_goals (refine RO.q0 rfl (QOk.makeFunc rfl rfl) rfl ?_); all_goals (refine RO.q0 rfl (QOk.assign rfl) rfl ?_); all_goals refine RO.nil ?_))
  refine R.freezeT (o := .cells _ 76 (0, 0)) (by (repeat (first | exact .here | apply Take.there)); (first | done | fail)) fun g1 hle1 hb1 => ?_
  refine R.freezeT (o := .cells _ 30 (0, 0)) (by (repeat (first | exact .here | apply Take.there)); (first | done | fail)) fun g2 hle2 hb2 => ?_
  exact R.ret0 Try.func43 rfl (.tmp rfl .nil) fun _ => ⟨rfl, _, _, rfl, (memOf hb1).mono hle2, memOf hb2⟩
section
variable {c : Cx} {g : Img} {D : List Deferred} {ty : TypeId} {e : List (Nat × Value)} {own r : List HProp} {K : Value → List HProp → Img → Prop} {xs : List Operand} {ats : Array TypeId} {fid N : Nat} {F0 : Frag} {g0 : Img} {Post : Value → List HProp → Img → Prop}
theorem c_visit {t : PT} {skf : Go.Fn} {ska skc : Array Value} (hx : evs e xs = some [.agg t.h.cells.toArray, .func skf ska skc]) (_hr : Rep g t)
    (hK : ∀ g' b2 bp, Le g g' → Mem g' b2 0 [.func skf ska skc] → Mem g' bp 0 t.h.cells → K (.func (.func 60) #[] [.pointer (some ⟨b2, 0, none⟩), .pointer (some ⟨bp, 0, none⟩)].toArray) own g') :
    OpOk (fnCx Try.prog fid N F0 g0 Post) D (.call { callee := .value (.func 43), args := xs.toArray, argTypes := ats }) ty e own g K := by
  refine OpOk.callV (f := 43) (fl := []) (cl := []) rfl hx (fun F => visit_ok F g t.h.cells t.h rfl skf ska skc) .nil ?_
  rintro v own' g' hle ⟨rfl, b2, bp, rfl, h1, h2⟩
  exact hK g' b2 bp hle h1 h2
end
/-! ### Measurable proofs -/
def sk40 (place : List Int) : Bool := decide (40 < place.length)
theorem skip40_ok (F : Frag) (g : Img) (a : Option Addr) (n cap : Nat) (place : List Int) (hs : Sl g 1 a n (ints place)) :
    Fc Try.prog 63 #[.slice a n cap] [] F g (fun v own' g' => own' = [] ∧ g' = g ∧ v = .bool (sk40 place)) := by
  have hn : n = place.length := by simpa using hs.len
  refine Fc.of_body (args := [_]) Try.func63 rfl rfl ?_
  repeat' (first | refine R.seq ?_ | refine R.skip ?_ | refine R.inBlock ?_ | refine R.block ?_ | refine R.condT rfl ?_ | refine R.condF rfl ?_ | refine R.exit rfl ?_ | refine R.label ?_ | (refine R.region (id := 0) ?_; all_goals (refine RO.q0 rfl (QOk.assign rfl) rfl ?_); all_goals refine RO.nil ?_) | (refine R.region (id := 1) ?_; all_goals (refine RO.q0 rfl (QOk.move rfl) rfl ?_); all_goals (first | refine RO.q0 rfl (QOk.lenSlice rfl) rfl ?_ | refine RO.q0 rfl (QOk.lenStr rfl) rfl ?_ | refine RO.q0 rfl (QOk.lenArr rfl) rfl ?_); all_goals (first | refine RO.q0 rfl (QOk.cmpT rfl rfl rfl (by first | decide | omega)) rfl ?_ | refine RO.q0 rfl (QOk.cmpF rfl rfl rfl (by first | decide | omega)) rfl ?_ | refine RO.q0 rfl (QOk.strCmp rfl rfl rfl (by first | assumption | rfl)) rfl ?_ | refine RO.q0 rfl (QOk.boolEq rfl rfl) rfl ?_ | refine RO.q0 rfl (QOk.boolNe rfl rfl) rfl ?_ | refine RO.q0 rfl (QOk.sliceNil rfl rfl rfl) rfl ?_ | refine RO.q0 rfl (QOk.sliceNotNil rfl rfl rfl) rfl ?_ | refine RO.q0 rfl (QOk.eqIT rfl rfl rfl (by first | decide | assumption | (simp only [List.cons.injEq]; omega))) rfl ?_ | refine RO.q0 rfl (QOk.eqIF rfl rfl rfl (by first | decide | assumption | (simp only [List.cons.injEq]; omega))) rfl ?_ | refine RO.cmpS rfl rfl rfl rfl (fun h => ?_) (fun h => ?_)); all_goals (refine RO.q0 rfl (QOk.assign rfl) rfl ?_); all_goals refine RO.nil ?_))
  · exact R.ret0 Try.func63 rfl (.tmp rfl .nil) fun _ => ⟨rfl, rfl, by rw [sk40, decide_eq_true (by omega)]; rfl⟩
  · exact R.ret0 Try.func63 rfl (.tmp rfl .nil) fun _ => ⟨rfl, rfl, by rw [sk40, decide_eq_false (by omega)]; rfl⟩
mutual
theorem steps40 : ∀ (t : PT) (place : List Int) (w : Int), place.length ≤ 41 → ∀ s ∈ steps sk40 place w t, s.place.length ≤ 41
  | .mk h sub, place, w, hp, s, hs => by
    rw [steps, List.mem_cons] at hs
    rcases hs with rfl | hs
    · exact hp
    · by_cases hk : sk40 place = true
      · rw [if_pos hk] at hs; cases hs
      · rw [if_neg hk] at hs
        have : ¬ 40 < place.length := by simpa [sk40] using hk
        exact stepsL40 sub place _ 0 (by omega) s hs
theorem stepsL40 : ∀ (l : List PT) (place : List Int) (w i : Int), place.length ≤ 40 → ∀ s ∈ stepsL sk40 place w i l, s.place.length ≤ 41
  | [], _, _, _, _, s, hs => by rw [stepsL] at hs; cases hs
  | t :: ts, place, w, i, hp, s, hs => by
    rw [stepsL, List.mem_append] at hs
    rcases hs with hs | hs
    · exact steps40 t (place ++ [i]) w (by simp; omega) s hs
    · exact stepsL40 ts place w (i + 1) hp s hs
end
@[reducible] def isQ (r : ByteArray) : Bool := r.toList == ({ data := #[63] } : ByteArray).toList
def good (s : Stp) : Bool := decide (s.place.length ≤ 40) && decide (s.p.sub.length ≤ 8) && !(isQ s.p.h.r && decide (0 < s.p.sub.length))
@[reducible] def whole : Int := 1152921504606846976
/-- Whether a proof can be measured. -/
def msr (t : PT) : Bool := decide ((steps sk40 [] whole t).length ≤ 300) && (steps sk40 [] whole t).all good
theorem good_iff {place : List Int} {w : Int} {hd : PH} {sub : List PT} : good ⟨place, w, .mk hd sub⟩ = true ↔ place.length ≤ 40 ∧ sub.length ≤ 8 ∧ ¬ (isQ hd.r = true ∧ 0 < sub.length) := by
  simp only [good, PT.h, PT.sub, Bool.and_eq_true, decide_eq_true_eq, Bool.not_eq_true', Bool.and_eq_false_iff, decide_eq_false_iff_not, Nat.not_lt, and_assoc]
  constructor
  · rintro ⟨h1, h2, h3⟩
    refine ⟨h1, h2, fun ⟨h4, h5⟩ => ?_⟩
    rcases h3 with h3 | h3
    · rw [h3] at h4; cases h4
    · omega
  · rintro ⟨h1, h2, h3⟩
    refine ⟨h1, h2, ?_⟩
    cases hq : isQ hd.r
    · exact .inl rfl
    · exact .inr (by have h4 : ¬ 0 < sub.length := fun h => h3 ⟨hq, h⟩; omega)
theorem msr_false {t : PT} {pre post : List Stp} {s : Stp} (hall : steps sk40 [] whole t = pre ++ s :: post) (h : 300 < pre.length + 1 ∨ ¬ good s = true) : msr t = false := by
  rw [msr, hall]
  rcases h with h | h
  · rw [decide_eq_false (by simp; omega)]; rfl
  · rw [List.all_append, List.all_cons, Bool.not_eq_true _ |>.mp h]; simp
theorem measurable_ok (F : Frag) (g : Img) (t : PT) (hr : Rep g t) : Fc Try.prog 48 #[.agg t.h.cells.toArray] [] F g (fun v own' _ => own' = [] ∧ v = .bool (msr t)) := by
  refine Fc.of_body (args := [_]) Try.func48 rfl rfl ?_
  repeat' (first | refine R.seq ?_ | refine R.skip ?_ | refine R.inBlock ?_ | refine R.block ?_ | refine R.condT rfl ?_ | refine R.condF rfl ?_ | refine R.exit rfl ?_ | refine R.label ?_ | (refine R.region (id := 0) ?_; all_goals (refine RO.ef rfl (OpOk.box rfl (fun b => ?_))); all_goals (refine RO.ef rfl (OpOk.alloc (fun b => ?_))); all_goals refine RO.nil ?_) | (refine R.region (id := 1) ?_; all_goals (refine RO.ef rfl (OpOk.alloc (fun b => ?_))); all_goals (first | refine RO.ef0 (OpOk.store rfl rfl rfl ?_) | refine RO.ef0 (OpOk.storeL rfl rfl rfl (by assumption) ?_)); all_goals refine RO.nil ?_) | (refine R.region (id := 2) ?_; all_goals (first | refine RO.ld rfl rfl ?_ | refine RO.ldA rfl rfl ?_ | refine RO.ldL rfl rfl (by assumption) ?_ | refine RO.ldLA rfl rfl (by assumption) (by first | rfl | assumption) ?_ | refine RO.ldLW rfl rfl (by assumption) ?_ | refine RO.q0 rfl (QOk.ldM rfl (by assumption)) rfl ?_ | refine RO.q0 rfl (QOk.ldMA rfl (by assumption) (by first | rfl | assumption)) rfl ?_ | refine RO.q0 rfl (QOk.ldMW rfl (by assumption)) rfl ?_ | refine RO.q0 rfl (QOk.ldMWA rfl (by assumption)) rfl ?_ | refine RO.q0 rfl (QOk.ldM0 rfl (by assumption)) rfl ?_ | refine RO.q0 rfl (QOk.ldM0A rfl (by assumption)) rfl ?_ | refine RO.q0 rfl (QOk.loadMem0 rfl (by assumption)) rfl ?_); all_goals (refine RO.ef rfl (c_visit rfl hr (fun g' b2 bp hle hm2 hmp => ?_))); all_goals refine RO.nil ?_))
  rename_i bx br
  generalize b = bn at *
  refine R.pick (A := [cel _ 3 _, cel _ 4 _]) (by repeat (first | exact Pick.nil | apply Pick.cons (by (repeat (first | exact .here | apply Take.there)); (first | done | fail)))) ?_
  refine R.sub (e' := [(6, .func (.func 60) #[] #[.pointer (some ⟨b2, 0, none⟩), .pointer (some ⟨bp, 0, none⟩)]), (3, .pointer (some ⟨bn, 0, none⟩)), (2, .pointer (some ⟨br, 0, none⟩))]) (by repeat (first | exact Sub.nil | refine Sub.cons rfl ?_)) ?_
  have hS : ∀ g1, Le g' g1 → ∀ a n cap place, place.length ≤ 1000 → Sl g1 1 a n (ints place) → Cv Try.prog (.func (.func 63) #[] #[]) [.slice a n cap] [] g1 (fun v own' g2 => own' = [] ∧ g2 = g1 ∧ v = .bool (sk40 place)) :=
    fun g1 _ a n cap place _ hs => Cv.ofFc (fl := []) (cl := []) fun F => skip40_ok F g1 a n cap place hs
  let Jf : List Stp → List HProp → Prop := fun pre L => (pre.length ≤ 300 ∧ pre.all good = true) ∧ L = [cel bn 3 [.int .i64 pre.length], cel br 4 [.bool false]]
  let Xf : Code → List HProp → Prop := fun code L => msr t = false ∧ code = .ret ∧ L = [cel br 4 [.bool false]]
  refine R.closeEx (own := []) (L := [cel bn 3 [.int .i64 0], cel br 4 [.bool false]]) (φ := Jf []) ⟨⟨by simp, rfl⟩, rfl⟩ ?_
  refine R.rangeIter (ts := [7]) (Own := []) (B := []) (fun pre _ => ex (Jf pre)) (fun code _ => ex (Xf code)) rfl rfl (visit_iter hm2 hmp (hr.mono hle) hS (fun s hs => Nat.le_trans (steps40 t [] _ (by simp) s hs) (by omega))) rfl
    (fun x g1 vs ⟨a, n, cap, h, _⟩ => by rw [h]; rfl) rfl (fun _ _ _ _ _ h => h) (fun _ _ _ _ _ h => h) (.refl _) ?_ ?_ ?_
  · rintro pre ⟨place, w, ⟨hd, sub⟩⟩ post g1 vs hall hle1 ⟨a, n, cap, rfl, hpl, hrp⟩ l r F
    have hrp' := hrp
    obtain ⟨hsl, hmax, _⟩ := hrp'
    have hnl : hd.sl.n = sub.length := by simpa using hsl.len
    have hnp : n = place.length := by simpa using hpl.len
    refine R.swap (R.openEx ?_)
    rintro L ⟨⟨hl, hgood⟩, rfl⟩
    dsimp only [List.cons_append, List.nil_append, putL, PT.h]
    repeat' (first | refine R.seq ?_ | refine R.skip ?_ | refine R.inBlock ?_ | refine R.block ?_ | refine R.condT rfl ?_ | refine R.condF rfl ?_ | refine R.exit rfl ?_ | refine R.label ?_ | (refine R.region (id := 3) ?_; all_goals (refine RO.ef rfl (OpOk.alloc (fun b => ?_))); all_goals (first | refine RO.ef0 (OpOk.store rfl rfl rfl ?_) | refine RO.ef0 (OpOk.storeL rfl rfl rfl (by assumption) ?_)); all_goals refine RO.nil ?_))
    refine R.begin rfl (by (repeat (first | exact .here | apply Take.there)); (first | done | fail)) ?_
    have hsubl : (PT.mk hd sub).sub.length = sub.length := rfl
    cases hq : isQ hd.r
    all_goals
      repeat' (first | refine R.seq ?_ | refine R.skip ?_ | refine R.inBlock ?_ | refine R.block ?_ | refine R.condT rfl ?_ | refine R.condF rfl ?_ | refine R.exit rfl ?_ | refine R.label ?_ | (refine R.region (id := 4) ?_; all_goals (first | refine RO.ld rfl rfl ?_ | refine RO.ldA rfl rfl ?_ | refine RO.ldL rfl rfl (by assumption) ?_ | refine RO.ldLA rfl rfl (by assumption) (by first | rfl | assumption) ?_ | refine RO.ldLW rfl rfl (by assumption) ?_ | refine RO.q0 rfl (QOk.ldM rfl (by assumption)) rfl ?_ | refine RO.q0 rfl (QOk.ldMA rfl (by assumption) (by first | rfl | assumption)) rfl ?_ | refine RO.q0 rfl (QOk.ldMW rfl (by assumption)) rfl ?_ | refine RO.q0 rfl (QOk.ldMWA rfl (by assumption)) rfl ?_ | refine RO.q0 rfl (QOk.ldM0 rfl (by assumption)) rfl ?_ | refine RO.q0 rfl (QOk.ldM0A rfl (by assumption)) rfl ?_ | refine RO.q0 rfl (QOk.loadMem0 rfl (by assumption)) rfl ?_); all_goals (first | refine RO.q0 rfl (QOk.arith rfl rfl rfl (w64 (by omega))) rfl ?_ | refine RO.q0 rfl (QOk.arith rfl rfl rfl (wu8 (by omega))) rfl ?_ | refine RO.q0 rfl (QOk.arith rfl rfl rfl (wu16 (by omega))) rfl ?_ | refine RO.q0 rfl (QOk.arith rfl rfl rfl (wu32 (by omega))) rfl ?_ | refine RO.q0 rfl (QOk.arith rfl rfl rfl (wu64 (by omega))) rfl ?_ | refine RO.q0 rfl (QOk.strAdd rfl rfl) rfl ?_); all_goals (first | refine RO.ef0 (OpOk.store rfl rfl rfl ?_) | refine RO.ef0 (OpOk.storeL rfl rfl rfl (by assumption) ?_)); all_goals refine RO.nil ?_) | (refine R.region (id := 5) ?_; all_goals (first | refine RO.ld rfl rfl ?_ | refine RO.ldA rfl rfl ?_ | refine RO.ldL rfl rfl (by assumption) ?_ | refine RO.ldLA rfl rfl (by assumption) (by first | rfl | assumption) ?_ | refine RO.ldLW rfl rfl (by assumption) ?_ | refine RO.q0 rfl (QOk.ldM rfl (by assumption)) rfl ?_ | refine RO.q0 rfl (QOk.ldMA rfl (by assumption) (by first | rfl | assumption)) rfl ?_ | refine RO.q0 rfl (QOk.ldMW rfl (by assumption)) rfl ?_ | refine RO.q0 rfl (QOk.ldMWA rfl (by assumption)) rfl ?_ | refine RO.q0 rfl (QOk.ldM0 rfl (by assumption)) rfl ?_ | refine RO.q0 rfl (QOk.ldM0A rfl (by assumption)) rfl ?_ | refine RO.q0 rfl (QOk.loadMem0 rfl (by assumption)) rfl ?_); all_goals (first | refine RO.q0 rfl (QOk.cmpT rfl rfl rfl (by first | decide | omega)) rfl ?_ | refine RO.q0 rfl (QOk.cmpF rfl rfl rfl (by first | decide | omega)) rfl ?_ | refine RO.q0 rfl (QOk.strCmp rfl rfl rfl (by first | assumption | rfl)) rfl ?_ | refine RO.q0 rfl (QOk.boolEq rfl rfl) rfl ?_ | refine RO.q0 rfl (QOk.boolNe rfl rfl) rfl ?_ | refine RO.q0 rfl (QOk.sliceNil rfl rfl rfl) rfl ?_ | refine RO.q0 rfl (QOk.sliceNotNil rfl rfl rfl) rfl ?_ | refine RO.q0 rfl (QOk.eqIT rfl rfl rfl (by first | decide | assumption | (simp only [List.cons.injEq]; omega))) rfl ?_ | refine RO.q0 rfl (QOk.eqIF rfl rfl rfl (by first | decide | assumption | (simp only [List.cons.injEq]; omega))) rfl ?_ | refine RO.cmpS rfl rfl rfl rfl (fun h => ?_) (fun h => ?_)); all_goals (refine RO.q0 rfl (QOk.move rfl) rfl ?_); all_goals (first | refine RO.offT rfl rfl rfl ?_ | refine RO.offU rfl rfl rfl ?_ | refine RO.gq0 rfl rfl rfl (QOk.fieldAddr0 rfl rfl) rfl ?_ | refine RO.gq0 rfl rfl rfl (QOk.fieldAddrZ rfl rfl) rfl ?_ | refine RO.gq0 rfl rfl rfl (QOk.fieldAddr rfl rfl) rfl ?_); all_goals (first | refine RO.offT rfl rfl rfl ?_ | refine RO.offU rfl rfl rfl ?_ | refine RO.gld rfl rfl rfl rfl ?_ | refine RO.gldA rfl rfl rfl rfl ?_ | refine RO.gq0 rfl rfl rfl (QOk.ldM rfl (by assumption)) rfl ?_ | refine RO.gq0 rfl rfl rfl (QOk.ldMA rfl (by assumption) (by first | rfl | assumption)) rfl ?_ | refine RO.gq0 rfl rfl rfl (QOk.ldMW rfl (by assumption)) rfl ?_ | refine RO.gq0 rfl rfl rfl (QOk.ldMWA rfl (by assumption)) rfl ?_ | refine RO.gq0 rfl rfl rfl (QOk.ldM0 rfl (by assumption)) rfl ?_ | refine RO.gq0 rfl rfl rfl (QOk.ldM0A rfl (by assumption)) rfl ?_ | refine RO.gq0 rfl rfl rfl (QOk.loadMem0 rfl (by assumption)) rfl ?_); all_goals (first | refine RO.offT rfl rfl rfl ?_ | refine RO.offU rfl rfl rfl ?_ | refine RO.gq0 rfl rfl rfl (QOk.lenSlice rfl) rfl ?_ | refine RO.gq0 rfl rfl rfl (QOk.lenStr rfl) rfl ?_ | refine RO.gq0 rfl rfl rfl (QOk.lenArr rfl) rfl ?_); all_goals (first | refine RO.offT rfl rfl rfl ?_ | refine RO.offU rfl rfl rfl ?_ | refine RO.gq0 rfl rfl rfl (QOk.cmpT rfl rfl rfl (by first | decide | omega)) rfl ?_ | refine RO.gq0 rfl rfl rfl (QOk.cmpF rfl rfl rfl (by first | decide | omega)) rfl ?_ | refine RO.gq0 rfl rfl rfl (QOk.strCmp rfl rfl rfl (by first | assumption | rfl)) rfl ?_ | refine RO.gq0 rfl rfl rfl (QOk.boolEq rfl rfl) rfl ?_ | refine RO.gq0 rfl rfl rfl (QOk.boolNe rfl rfl) rfl ?_ | refine RO.gq0 rfl rfl rfl (QOk.sliceNil rfl rfl rfl) rfl ?_ | refine RO.gq0 rfl rfl rfl (QOk.sliceNotNil rfl rfl rfl) rfl ?_ | refine RO.gq0 rfl rfl rfl (QOk.eqIT rfl rfl rfl (by first | decide | assumption | (simp only [List.cons.injEq]; omega))) rfl ?_ | refine RO.gq0 rfl rfl rfl (QOk.eqIF rfl rfl rfl (by first | decide | assumption | (simp only [List.cons.injEq]; omega))) rfl ?_ | refine RO.gcmpS rfl rfl rfl rfl rfl rfl (fun h => ?_) (fun h => ?_)); all_goals (first | refine RO.q0 rfl (QOk.pickT rfl rfl) rfl ?_ | refine RO.q0 rfl (QOk.pickF rfl rfl) rfl ?_); all_goals (refine RO.q0 rfl (QOk.move rfl) rfl ?_); all_goals (first | refine RO.offT rfl rfl rfl ?_ | refine RO.offU rfl rfl rfl ?_ | refine RO.gq0 rfl rfl rfl (QOk.fieldAddr0 rfl rfl) rfl ?_ | refine RO.gq0 rfl rfl rfl (QOk.fieldAddrZ rfl rfl) rfl ?_ | refine RO.gq0 rfl rfl rfl (QOk.fieldAddr rfl rfl) rfl ?_); all_goals (first | refine RO.offT rfl rfl rfl ?_ | refine RO.offU rfl rfl rfl ?_ | refine RO.gq0 rfl rfl rfl (QOk.fieldAddr0 rfl rfl) rfl ?_ | refine RO.gq0 rfl rfl rfl (QOk.fieldAddrZ rfl rfl) rfl ?_ | refine RO.gq0 rfl rfl rfl (QOk.fieldAddr rfl rfl) rfl ?_); all_goals (first | refine RO.offT rfl rfl rfl ?_ | refine RO.offU rfl rfl rfl ?_ | refine RO.gld rfl rfl rfl rfl ?_ | refine RO.gldA rfl rfl rfl rfl ?_ | refine RO.gq0 rfl rfl rfl (QOk.ldM rfl (by assumption)) rfl ?_ | refine RO.gq0 rfl rfl rfl (QOk.ldMA rfl (by assumption) (by first | rfl | assumption)) rfl ?_ | refine RO.gq0 rfl rfl rfl (QOk.ldMW rfl (by assumption)) rfl ?_ | refine RO.gq0 rfl rfl rfl (QOk.ldMWA rfl (by assumption)) rfl ?_ | refine RO.gq0 rfl rfl rfl (QOk.ldM0 rfl (by assumption)) rfl ?_ | refine RO.gq0 rfl rfl rfl (QOk.ldM0A rfl (by assumption)) rfl ?_ | refine RO.gq0 rfl rfl rfl (QOk.loadMem0 rfl (by assumption)) rfl ?_); all_goals (first | refine RO.offT rfl rfl rfl ?_ | refine RO.offU rfl rfl rfl ?_ | refine RO.gq0 rfl rfl rfl (QOk.lenSlice rfl) rfl ?_ | refine RO.gq0 rfl rfl rfl (QOk.lenStr rfl) rfl ?_ | refine RO.gq0 rfl rfl rfl (QOk.lenArr rfl) rfl ?_); all_goals (first | refine RO.offT rfl rfl rfl ?_ | refine RO.offU rfl rfl rfl ?_ | refine RO.gq0 rfl rfl rfl (QOk.cmpT rfl rfl rfl (by first | decide | omega)) rfl ?_ | refine RO.gq0 rfl rfl rfl (QOk.cmpF rfl rfl rfl (by first | decide | omega)) rfl ?_ | refine RO.gq0 rfl rfl rfl (QOk.strCmp rfl rfl rfl (by first | assumption | rfl)) rfl ?_ | refine RO.gq0 rfl rfl rfl (QOk.boolEq rfl rfl) rfl ?_ | refine RO.gq0 rfl rfl rfl (QOk.boolNe rfl rfl) rfl ?_ | refine RO.gq0 rfl rfl rfl (QOk.sliceNil rfl rfl rfl) rfl ?_ | refine RO.gq0 rfl rfl rfl (QOk.sliceNotNil rfl rfl rfl) rfl ?_ | refine RO.gq0 rfl rfl rfl (QOk.eqIT rfl rfl rfl (by first | decide | assumption | (simp only [List.cons.injEq]; omega))) rfl ?_ | refine RO.gq0 rfl rfl rfl (QOk.eqIF rfl rfl rfl (by first | decide | assumption | (simp only [List.cons.injEq]; omega))) rfl ?_ | refine RO.gcmpS rfl rfl rfl rfl rfl rfl (fun h => ?_) (fun h => ?_)); all_goals (first | refine RO.q0 rfl (QOk.pickT rfl rfl) rfl ?_ | refine RO.q0 rfl (QOk.pickF rfl rfl) rfl ?_); all_goals (refine RO.q0 rfl (QOk.move rfl) rfl ?_); all_goals (first | refine RO.offT rfl rfl rfl ?_ | refine RO.offU rfl rfl rfl ?_ | refine RO.gq0 rfl rfl rfl (QOk.fieldAddr0 rfl rfl) rfl ?_ | refine RO.gq0 rfl rfl rfl (QOk.fieldAddrZ rfl rfl) rfl ?_ | refine RO.gq0 rfl rfl rfl (QOk.fieldAddr rfl rfl) rfl ?_); all_goals (first | refine RO.offT rfl rfl rfl ?_ | refine RO.offU rfl rfl rfl ?_ | refine RO.gq0 rfl rfl rfl (QOk.fieldAddr0 rfl rfl) rfl ?_ | refine RO.gq0 rfl rfl rfl (QOk.fieldAddrZ rfl rfl) rfl ?_ | refine RO.gq0 rfl rfl rfl (QOk.fieldAddr rfl rfl) rfl ?_); all_goals (first | refine RO.offT rfl rfl rfl ?_ | refine RO.offU rfl rfl rfl ?_ | refine RO.gld rfl rfl rfl rfl ?_ | refine RO.gldA rfl rfl rfl rfl ?_ | refine RO.gq0 rfl rfl rfl (QOk.ldM rfl (by assumption)) rfl ?_ | refine RO.gq0 rfl rfl rfl (QOk.ldMA rfl (by assumption) (by first | rfl | assumption)) rfl ?_ | refine RO.gq0 rfl rfl rfl (QOk.ldMW rfl (by assumption)) rfl ?_ | refine RO.gq0 rfl rfl rfl (QOk.ldMWA rfl (by assumption)) rfl ?_ | refine RO.gq0 rfl rfl rfl (QOk.ldM0 rfl (by assumption)) rfl ?_ | refine RO.gq0 rfl rfl rfl (QOk.ldM0A rfl (by assumption)) rfl ?_ | refine RO.gq0 rfl rfl rfl (QOk.loadMem0 rfl (by assumption)) rfl ?_); all_goals (first | refine RO.offT rfl rfl rfl ?_ | refine RO.offU rfl rfl rfl ?_ | refine RO.gq0 rfl rfl rfl (QOk.cmpT rfl rfl rfl (by first | decide | omega)) rfl ?_ | refine RO.gq0 rfl rfl rfl (QOk.cmpF rfl rfl rfl (by first | decide | omega)) rfl ?_ | refine RO.gq0 rfl rfl rfl (QOk.strCmp rfl rfl rfl (by first | assumption | rfl)) rfl ?_ | refine RO.gq0 rfl rfl rfl (QOk.boolEq rfl rfl) rfl ?_ | refine RO.gq0 rfl rfl rfl (QOk.boolNe rfl rfl) rfl ?_ | refine RO.gq0 rfl rfl rfl (QOk.sliceNil rfl rfl rfl) rfl ?_ | refine RO.gq0 rfl rfl rfl (QOk.sliceNotNil rfl rfl rfl) rfl ?_ | refine RO.gq0 rfl rfl rfl (QOk.eqIT rfl rfl rfl (by first | decide | assumption | (simp only [List.cons.injEq]; omega))) rfl ?_ | refine RO.gq0 rfl rfl rfl (QOk.eqIF rfl rfl rfl (by first | decide | assumption | (simp only [List.cons.injEq]; omega))) rfl ?_ | refine RO.gcmpS rfl rfl rfl rfl rfl rfl (fun h => ?_) (fun h => ?_)); all_goals (first | refine RO.offT rfl rfl rfl ?_ | refine RO.offU rfl rfl rfl ?_ | refine RO.gq0 rfl rfl rfl (QOk.move rfl) rfl ?_); all_goals (first | refine RO.offF rfl rfl rfl ?_ | refine RO.offU rfl rfl rfl ?_ | refine RO.gq0 rfl rfl rfl (QOk.fieldAddr0 rfl rfl) rfl ?_ | refine RO.gq0 rfl rfl rfl (QOk.fieldAddrZ rfl rfl) rfl ?_ | refine RO.gq0 rfl rfl rfl (QOk.fieldAddr rfl rfl) rfl ?_); all_goals (first | refine RO.offF rfl rfl rfl ?_ | refine RO.offU rfl rfl rfl ?_ | refine RO.gq0 rfl rfl rfl (QOk.fieldAddr0 rfl rfl) rfl ?_ | refine RO.gq0 rfl rfl rfl (QOk.fieldAddrZ rfl rfl) rfl ?_ | refine RO.gq0 rfl rfl rfl (QOk.fieldAddr rfl rfl) rfl ?_); all_goals (first | refine RO.offF rfl rfl rfl ?_ | refine RO.offU rfl rfl rfl ?_ | refine RO.gld rfl rfl rfl rfl ?_ | refine RO.gldA rfl rfl rfl rfl ?_ | refine RO.gq0 rfl rfl rfl (QOk.ldM rfl (by assumption)) rfl ?_ | refine RO.gq0 rfl rfl rfl (QOk.ldMA rfl (by assumption) (by first | rfl | assumption)) rfl ?_ | refine RO.gq0 rfl rfl rfl (QOk.ldMW rfl (by assumption)) rfl ?_ | refine RO.gq0 rfl rfl rfl (QOk.ldMWA rfl (by assumption)) rfl ?_ | refine RO.gq0 rfl rfl rfl (QOk.ldM0 rfl (by assumption)) rfl ?_ | refine RO.gq0 rfl rfl rfl (QOk.ldM0A rfl (by assumption)) rfl ?_ | refine RO.gq0 rfl rfl rfl (QOk.loadMem0 rfl (by assumption)) rfl ?_); all_goals (first | refine RO.offF rfl rfl rfl ?_ | refine RO.offU rfl rfl rfl ?_ | refine RO.gq0 rfl rfl rfl (QOk.lenSlice rfl) rfl ?_ | refine RO.gq0 rfl rfl rfl (QOk.lenStr rfl) rfl ?_ | refine RO.gq0 rfl rfl rfl (QOk.lenArr rfl) rfl ?_); all_goals (first | refine RO.offF rfl rfl rfl ?_ | refine RO.offU rfl rfl rfl ?_ | refine RO.gq0 rfl rfl rfl (QOk.cmpT rfl rfl rfl (by first | decide | omega)) rfl ?_ | refine RO.gq0 rfl rfl rfl (QOk.cmpF rfl rfl rfl (by first | decide | omega)) rfl ?_ | refine RO.gq0 rfl rfl rfl (QOk.strCmp rfl rfl rfl (by first | assumption | rfl)) rfl ?_ | refine RO.gq0 rfl rfl rfl (QOk.boolEq rfl rfl) rfl ?_ | refine RO.gq0 rfl rfl rfl (QOk.boolNe rfl rfl) rfl ?_ | refine RO.gq0 rfl rfl rfl (QOk.sliceNil rfl rfl rfl) rfl ?_ | refine RO.gq0 rfl rfl rfl (QOk.sliceNotNil rfl rfl rfl) rfl ?_ | refine RO.gq0 rfl rfl rfl (QOk.eqIT rfl rfl rfl (by first | decide | assumption | (simp only [List.cons.injEq]; omega))) rfl ?_ | refine RO.gq0 rfl rfl rfl (QOk.eqIF rfl rfl rfl (by first | decide | assumption | (simp only [List.cons.injEq]; omega))) rfl ?_ | refine RO.gcmpS rfl rfl rfl rfl rfl rfl (fun h => ?_) (fun h => ?_)); all_goals (first | refine RO.offT rfl rfl rfl ?_ | refine RO.offU rfl rfl rfl ?_ | refine RO.gq0 rfl rfl rfl (QOk.pickT rfl rfl) rfl ?_ | refine RO.gq0 rfl rfl rfl (QOk.pickF rfl rfl) rfl ?_); all_goals (first | refine RO.q0 rfl (QOk.pickT rfl rfl) rfl ?_ | refine RO.q0 rfl (QOk.pickF rfl rfl) rfl ?_); all_goals refine RO.nil ?_) | (refine R.region (id := 6) ?_; all_goals (first | refine RO.ef0 (OpOk.store rfl rfl rfl ?_) | refine RO.ef0 (OpOk.storeL rfl rfl rfl (by assumption) ?_)); all_goals refine RO.nil ?_))
      all_goals first
        | (refine R.pick (A := [cel bn 3 _, cel br 4 _, lp l r .busy none]) (by repeat (first | exact Pick.nil | apply Pick.cons (by (repeat (first | exact .here | apply Take.there)); (first | done | fail)))) ?_
           refine R.closeEx (L := [cel bn 3 _, cel br 4 _]) (φ := Jf (pre ++ [⟨place, w, .mk hd sub⟩])) ⟨⟨by simp; omega, ?_⟩, by simp⟩ ?_
           rotate_left
           · refine R.next (l := l) (r := r) (pe := none) (A := [ex (Jf (pre ++ [⟨place, w, .mk hd sub⟩]))]) (by repeat (first | exact Pick.nil | apply Pick.cons (by (repeat (first | exact .here | apply Take.there)); (first | done | fail)))) ?_
             exact fun _ => Or.inl ⟨rfl, rfl⟩
           have hg : good ⟨place, w, .mk hd sub⟩ = true := by
             rw [good_iff, hq]
             simp only [true_and, reduceCtorEq, false_and, not_false_eq_true, and_true]
             omega
           rw [List.all_append, hgood, List.all_cons, List.all_nil, hg]; rfl)
        | (refine R.pick (A := [cel br 4 _, lp l r .busy none]) (by repeat (first | exact Pick.nil | apply Pick.cons (by (repeat (first | exact .here | apply Take.there)); (first | done | fail)))) ?_
           refine R.closeEx (L := [cel br 4 _]) (φ := Xf .ret) ⟨?_, rfl, rfl⟩ ?_
           rotate_left
           · refine R.leaveRet (l := l) (r := r) (pe := none) (A := [ex (Xf .ret)]) (by repeat (first | exact Pick.nil | apply Pick.cons (by (repeat (first | exact .here | apply Take.there)); (first | done | fail)))) ?_
             exact fun _ => Or.inr ⟨_, rfl, rfl⟩
           refine msr_false hall ?_
           rw [good_iff, hq]
           simp only [true_and, reduceCtorEq, false_and, not_false_eq_true, and_true]
           omega)
  · intro r0 g2 hle2
    refine R.swap (R.openEx ?_)
    rintro L ⟨⟨hl, hgood⟩, rfl⟩
    dsimp only [List.cons_append, List.nil_append]
    repeat' (first | refine R.seq ?_ | refine R.skip ?_ | refine R.inBlock ?_ | refine R.block ?_ | refine R.condT rfl ?_ | refine R.condF rfl ?_ | refine R.exit rfl ?_ | refine R.label ?_ | (refine R.region (id := 7) ?_; all_goals (first | refine RO.ef0 (OpOk.store rfl rfl rfl ?_) | refine RO.ef0 (OpOk.storeL rfl rfl rfl (by assumption) ?_)); all_goals refine RO.nil ?_))
    refine R.retM Try.func48 rfl (A := [cel br 4 [.bool true]]) (by repeat (first | exact Pick.nil | apply Pick.cons (by (repeat (first | exact .here | apply Take.there)); (first | done | fail)))) (.c1 rfl .nil) .nil ?_
    have hm : msr t = true := by simp [msr, whole, hl, hgood]
    exact fun _ => ⟨rfl, by rw [hm]; rfl⟩
  · intro r0 code g2 hle2
    refine R.swap (R.openEx ?_)
    rintro L ⟨hm, rfl, rfl⟩
    dsimp only [List.cons_append, List.nil_append]
    refine R.retM Try.func48 rfl (A := [cel br 4 [.bool false]]) (by repeat (first | exact Pick.nil | apply Pick.cons (by (repeat (first | exact .here | apply Take.there)); (first | done | fail)))) (.c1 rfl .nil) .nil fun _ => ⟨rfl, by rw [hm]; rfl⟩
end Go.Proofs.Ytbdnfllpdlbboaa
