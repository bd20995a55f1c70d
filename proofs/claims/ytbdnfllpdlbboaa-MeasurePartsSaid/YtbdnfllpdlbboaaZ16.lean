import Derived.Test.YtbdnfllpdlbboaaZ15
namespace Go.Proofs.Ytbdnfllpdlbboaa
open Go Go.Zed
theorem setOk_look {l vs l' : List Value} {off : Nat} (h : SetOk l off vs l') : Look l' off vs := by
  obtain ⟨rfl, hl⟩ := h
  intro j v hv
  have hj : j < vs.length := (List.getElem?_eq_some_iff.1 hv).1
  rw [List.append_assoc, List.getElem?_append_right (by simp; omega), List.getElem?_append_left (by simp; omega)]
  rw [show off + j - (l.take off).length = j by simp; omega]; exact hv
theorem R.ownOpen {c : Cx} {k : List Item} {D : List Deferred} {e : List (Nat × Value)} {own : List HProp} {g : Img} {A B : List DV} {T sz n cap : Nat} {a : Option Addr} {es : List (List DV)}
    (h : es.length ≤ 1000000 → R c k D e (sl T sz a n cap (es.map vals) :: ownLL none es :: ownL none A :: ownL none B :: own) g) : R c k D e (ownL none (A ++ .sl T sz a n cap es :: B) :: own) g := by
  refine R.ent (own' := DV.own none (.sl T sz a n cap es) :: ownL none A :: ownL none B :: own)
    (((Ent.head (Ent.ownSplit.trans (Ent.cons _ Ent.ownCons))).trans Ent.swap)) ?_
  intro hle tmps w hf hh
  have hh2 := hh
  obtain ⟨fr, ⟨f1, f2, rfl, h1, hs⟩, hg⟩ := hh2
  rw [DV.own] at h1
  rcases h1 with ⟨_, g', h1, _⟩ | ⟨hn, _⟩
  · cases h1
  · exact h hn hle tmps w hf (hh.ent (Ent.head Ent.ownSl))
attribute [local irreducible] R RO RD OpOk QOk
set_option maxRecDepth 10000
set_option maxHeartbeats 4000000
/-- A proof with another part at a place. -/
def setPf : Pf → List Int → Pf → Pf
  | _, [], q => q
  | .mk r f lab ss ms, i :: is, q => match ss[i.toNat]? with
    | some s => .mk r f lab (ss.set i.toNat (setPf s is q)) ms
    | none => .mk r f lab ss ms
/-- What With answers. -/
def withR (p : Pf) (l : List Int) (part : Pf) (v : Value) (own : List HProp) : Prop :=
  (msrS (pfS p) = false ∧ own = [] ∧ v = .tuple [.agg zPH.cells.toArray, .int .i64 2].toArray) ∨
  (msrS (pfS p) = true ∧ atPf p l = none ∧ own = [] ∧ v = .tuple [.agg zPH.cells.toArray, .int .i64 6].toArray) ∨
  (msrS (pfS p) = true ∧ atPf p l ≠ none ∧ msrS (pfS (setPf p l part)) = false ∧ own = [] ∧ v = .tuple [.agg zPH.cells.toArray, .int .i64 5].toArray) ∨
  (msrS (pfS p) = true ∧ atPf p l ≠ none ∧ msrS (pfS (setPf p l part)) = true ∧ ∃ y, shL y = encP (setPf p l part) ∧ own = [ownL none y] ∧ v = .tuple [.agg (vals y).toArray, .int .i64 0].toArray)
section
variable {c : Cx} {g : Img} {D : List Deferred} {ty : TypeId} {e : List (Nat × Value)} {own r : List HProp} {K : Value → List HProp → Img → Prop} {xs : List Operand} {ats : Array TypeId} {fid N : Nat} {F0 : Frag} {g0 : Img} {Post : Value → List HProp → Img → Prop}
theorem c_copiedT {x : List DV} {t : PT} (hC : CopyOk 50 g x) (hcx : t.h.cells = vals x) (hx : evs e xs = some [.agg t.h.cells.toArray])
    (hK : ∀ y, shL y = shL x → K (.agg (vals y).toArray) (ownL none y :: own) g) :
    OpOk (fnCx Try.prog fid N F0 g0 Post) D (.call { callee := .value (.func 50), args := xs.toArray, argTypes := ats }) ty e own g K := c_copied (by rw [← hcx]; exact hx) hC hK
end
theorem measurable_lend {L : List HProp} {g : Img} {x : List DV} {p : Pf} (h : shL x = encP p) (hL : ∀ g1, Le g g1 → Frz L g1 → RpL g1 x) (F : Frag) :
    Fc Try.prog 48 #[.agg (vals x).toArray] L F g (fun v own' _ => own' = L ∧ v = .bool (msrS (pfS p))) := by
  have := Fc.lend (P := Try.prog) (f := 48) (args := #[.agg (vals x).toArray]) (L := L) (own := []) (g := g) (Q := fun v o => o = [] ∧ v = .bool (msrS (pfS p))) (fun F g1 hle hf => by
    obtain ⟨t, hk, hrt, hst⟩ := Lk.ex g1 p x h (hL g1 hle hf)
    rw [← hk.cells]
    have := measurable_ok F g1 t hrt
    rw [msr_st, hst] at this
    exact this) F
  rw [List.append_nil] at this
  refine Fc.entPost this ?_
  rintro v o g' ⟨o2, rfl, rfl, rfl⟩
  exact ⟨L, by rw [List.append_nil]; exact .refl _, rfl, rfl⟩
section
variable {c : Cx} {g : Img} {D : List Deferred} {ty : TypeId} {e : List (Nat × Value)} {own r : List HProp} {K : Value → List HProp → Img → Prop} {xs : List Operand} {ats : Array TypeId} {fid N : Nat} {F0 : Frag} {g0 : Img} {Post : Value → List HProp → Img → Prop}
theorem c_measLend {p1 p2 : HProp} {B : List HProp} {x : List DV} {p : Pf} {b : Bool} (h : shL x = encP p) (hL : ∀ g1, Le g g1 → Frz [p1, p2] g1 → RpL g1 x) (hb : msrS (pfS p) = b) (hx : evs e xs = some [.agg (vals x).toArray]) (hp : Pick own [p1, p2] B)
    (hK : ∀ g2, Le g g2 → K (.bool b) (p1 :: p2 :: B) g2) :
    OpOk (fnCx Try.prog fid N F0 g0 Post) D (.call { callee := .value (.func 48), args := xs.toArray, argTypes := ats }) ty e own g K := by
  refine OpOk.callV (f := 48) (fl := []) (cl := []) rfl hx (fun F => measurable_lend h hL F) hp ?_
  rintro v own' g' hle ⟨rfl, rfl⟩
  rw [hb]
  exact hK g' hle
end
theorem shLL_set {es : List (List DV)} {l : List Pf} {j : Nat} {z : List DV} {pz : Pf} (h : shLL es = l.map encP) (hz : shL z = encP pz) : shLL (es.set j z) = (l.set j pz).map encP := by
  rw [shLL_map] at h ⊢
  rw [List.map_set, List.map_set, h, hz]
theorem encP_set {A B : List DV} {T n c j : Nat} {a : Option Addr} {su : List (List DV)} {r : ByteArray} {fm : Fm} {lab : Int} {ss : List Pf} {ms : List (List Int)} {z : List DV} {pz : Pf}
    (hA : A.length = 6) (h : shL (A ++ .sl T 8 a n c su :: B) = encP (.mk r fm lab ss ms)) (hz : shL z = encP pz) : shL (A ++ .sl T 8 a n c (su.set j z) :: B) = encP (.mk r fm lab (ss.set j pz) ms) := by
  obtain ⟨o, nm, ts, fs⟩ := fm
  rw [encP, encF] at h ⊢
  simp only [shL_map, List.map_append, List.map_cons, DV.sh, List.cons_append, List.nil_append] at h ⊢
  have hl : (A.map DV.sh).length = 6 := by simpa using hA
  generalize A.map DV.sh = A' at *
  match A', hl with
  | [d0, d1, d2, d3, d4, d5], _ =>
    simp only [List.cons_append, List.nil_append, List.cons.injEq, slD, DV.sl.injEq, encPs_map, List.length_set, List.length_map, true_and] at h ⊢
    obtain ⟨h0, h1, h2, h3, h4, h5, h6, h7⟩ := h
    obtain ⟨h6a, h6b⟩ := h6
    exact ⟨h0, h1, h2, h3, h4, h5, by
      refine ⟨?_, ?_⟩
      · simpa using h6a
      · simpa using shLL_set (by simpa using h6b) hz, h7⟩
theorem encP_one {y : List DV} {p : Pf} (h : shL y = encP p) : (vals y).all Value.oneCell' = true := by
  obtain ⟨r, ⟨o, nm, ts, fs⟩, lab, ss, ms⟩ := p
  obtain ⟨T, a, n, c, es, T', a', n', c', es', Ts, sa, sn, sc, su, Tm, ma, mn, mc, mm, rfl, h1, h2, h3, h4⟩ := invP h
  rfl
theorem with_ok (F : Frag) (g : Img) {p part : Pf} {x x2 : List DV} (h : shL x = encP p) (hr : RpL g x) (h2 : shL x2 = encP part) (hr2 : RpL g x2) {a : Option Addr} {n cap : Nat} {l : List Int} (hl : Sl g 1 a n (ints l)) (hn : l.length ≤ 1000000000000) :
    Fc Try.prog 24 #[.agg (vals x).toArray, .slice a n cap, .agg (vals x2).toArray] [] F g (fun v own' _ => withR p l part v own') := by
  obtain ⟨t, hk, hrt, hst⟩ := Lk.ex g p x h hr
  obtain ⟨t2, hk2, hrt2, hst2⟩ := Lk.ex g part x2 h2 hr2
  have hnl : n = l.length := by simpa using hl.len
  have hm := msr_st t
  rw [hst] at hm
  have hLen : ∀ y', shL y' = shL x → (vals y').length = 8 := fun y' hy => vals_len (hy.trans h)
  have hone := fun y' (hy : shL y' = shL x) => shL_one hy (RpL.one hr)
  have hset : ∀ y', shL y' = shL x → SetOk zPH.cells 0 (vals y') (vals y') := fun y' hy => setOk_all (by rw [vals_len (hy.trans h)]; rfl)
  have hcx := hk.cells
  have hcx2 := hk2.cells
  rw [← hcx, ← hcx2]
  refine Fc.of_body (args := [_, _, _]) Try.func24 rfl rfl ?_
  cases hb : msr t
  · repeat' (first | refine R.seq ?_ | refine R.skip ?_ | refine R.inBlock ?_ | refine R.block ?_ | refine R.condT rfl ?_ | refine R.condF rfl ?_ | refine R.exit rfl ?_ | refine R.label ?_ | (refine R.region (id := 0) ?_; all_goals (refine RO.ef rfl (OpOk.box rfl (fun b => ?_))); all_goals (refine RO.ef rfl (OpOk.box rfl (fun b => ?_))); all_goals (refine RO.ef rfl (OpOk.alloc (fun b => ?_))); all_goals (refine RO.q0 rfl (QOk.assign rfl) rfl ?_); all_goals refine RO.nil ?_) | (refine R.region (id := 1) ?_; all_goals (first | refine RO.ld rfl rfl ?_ | refine RO.ldA rfl rfl ?_ | refine RO.ldL rfl rfl (by assumption) ?_ | refine RO.ldLA rfl rfl (by assumption) (by first | rfl | assumption) ?_ | refine RO.ldLW rfl rfl (by assumption) ?_ | refine RO.ef rfl (OpOk.quietE rfl hE1 (QOk.loadA rfl (look_self.reads .here) hl3) ?_) | refine RO.q0 rfl (QOk.ldM rfl (by assumption)) rfl ?_ | refine RO.q0 rfl (QOk.ldMA rfl (by assumption) (by first | rfl | assumption)) rfl ?_ | refine RO.q0 rfl (QOk.ldMW rfl (by assumption)) rfl ?_ | refine RO.q0 rfl (QOk.ldMWA rfl (by assumption)) rfl ?_ | refine RO.q0 rfl (QOk.ldM0 rfl (by assumption)) rfl ?_ | refine RO.q0 rfl (QOk.ldM0A rfl (by assumption)) rfl ?_ | refine RO.q0 rfl (QOk.loadMem0 rfl (by assumption)) rfl ?_); all_goals (first | refine RO.ef rfl (c_measurable rfl hrt (by assumption) (fun g2 hle => have hrt := hrt.mono hle; have hr := hr.mono hle; have hl := hl.mono hle; have hr2 := hr2.mono hle; have hC := copied_ok p g2 x h hr; ?_)) | refine RO.ef rfl (c_measLend hfx hFz (by assumption) rfl (by repeat (first | exact Pick.nil | apply Pick.cons (by (repeat (first | exact .here | apply Take.there)); (first | done | fail)))) (fun g2 hle => have hr2 := hr2.mono hle; have hC2 := copied_ok part g2 x2 h2 hr2; ?_))); all_goals (first | refine RO.q0 rfl (QOk.notT rfl) rfl ?_ | refine RO.q0 rfl (QOk.notF rfl) rfl ?_); all_goals refine RO.nil ?_) | (refine R.region (id := 2) ?_; all_goals (refine RO.q0 rfl (QOk.build rfl) rfl ?_); all_goals (first | refine RO.ef0 (OpOk.store rfl rfl rfl ?_) | refine RO.ef0 (OpOk.storeL rfl rfl rfl (by assumption) ?_) | refine RO.ef0 (OpOk.storeL rfl rfl (hone2 _ (by assumption)) (hset3 _ (by assumption)) ?_) | refine RO.ef0 (OpOk.storeL rfl rfl (hone _ (by assumption)) (hset _ (by assumption)) ?_) | refine RO.ef0 (OpOk.storeL rfl rfl hone4 hset4 ?_)); all_goals (refine RO.q0 rfl (QOk.assign rfl) rfl ?_); all_goals refine RO.nil ?_))
    exact R.ret0 Try.func24 rfl (.cA rfl (.tmp rfl .nil)) fun _ => .inl ⟨by rw [← hm, hb], rfl, rfl⟩
  · repeat' (first | refine R.seq ?_ | refine R.skip ?_ | refine R.inBlock ?_ | refine R.block ?_ | refine R.condT rfl ?_ | refine R.condF rfl ?_ | refine R.exit rfl ?_ | refine R.label ?_ | (refine R.region (id := 0) ?_; all_goals (refine RO.ef rfl (OpOk.box rfl (fun b => ?_))); all_goals (refine RO.ef rfl (OpOk.box rfl (fun b => ?_))); all_goals (refine RO.ef rfl (OpOk.alloc (fun b => ?_))); all_goals (refine RO.q0 rfl (QOk.assign rfl) rfl ?_); all_goals refine RO.nil ?_) | (refine R.region (id := 1) ?_; all_goals (first | refine RO.ld rfl rfl ?_ | refine RO.ldA rfl rfl ?_ | refine RO.ldL rfl rfl (by assumption) ?_ | refine RO.ldLA rfl rfl (by assumption) (by first | rfl | assumption) ?_ | refine RO.ldLW rfl rfl (by assumption) ?_ | refine RO.ef rfl (OpOk.quietE rfl hE1 (QOk.loadA rfl (look_self.reads .here) hl3) ?_) | refine RO.q0 rfl (QOk.ldM rfl (by assumption)) rfl ?_ | refine RO.q0 rfl (QOk.ldMA rfl (by assumption) (by first | rfl | assumption)) rfl ?_ | refine RO.q0 rfl (QOk.ldMW rfl (by assumption)) rfl ?_ | refine RO.q0 rfl (QOk.ldMWA rfl (by assumption)) rfl ?_ | refine RO.q0 rfl (QOk.ldM0 rfl (by assumption)) rfl ?_ | refine RO.q0 rfl (QOk.ldM0A rfl (by assumption)) rfl ?_ | refine RO.q0 rfl (QOk.loadMem0 rfl (by assumption)) rfl ?_); all_goals (first | refine RO.ef rfl (c_measurable rfl hrt (by assumption) (fun g2 hle => have hrt := hrt.mono hle; have hr := hr.mono hle; have hl := hl.mono hle; have hr2 := hr2.mono hle; have hC := copied_ok p g2 x h hr; ?_)) | refine RO.ef rfl (c_measLend hfx hFz (by assumption) rfl (by repeat (first | exact Pick.nil | apply Pick.cons (by (repeat (first | exact .here | apply Take.there)); (first | done | fail)))) (fun g2 hle => have hr2 := hr2.mono hle; have hC2 := copied_ok part g2 x2 h2 hr2; ?_))); all_goals (first | refine RO.q0 rfl (QOk.notT rfl) rfl ?_ | refine RO.q0 rfl (QOk.notF rfl) rfl ?_); all_goals refine RO.nil ?_) | (refine R.region (id := 3) ?_; all_goals (first | refine RO.ld rfl rfl ?_ | refine RO.ldA rfl rfl ?_ | refine RO.ldL rfl rfl (by assumption) ?_ | refine RO.ldLA rfl rfl (by assumption) (by first | rfl | assumption) ?_ | refine RO.ldLW rfl rfl (by assumption) ?_ | refine RO.ef rfl (OpOk.quietE rfl hE1 (QOk.loadA rfl (look_self.reads .here) hl3) ?_) | refine RO.q0 rfl (QOk.ldM rfl (by assumption)) rfl ?_ | refine RO.q0 rfl (QOk.ldMA rfl (by assumption) (by first | rfl | assumption)) rfl ?_ | refine RO.q0 rfl (QOk.ldMW rfl (by assumption)) rfl ?_ | refine RO.q0 rfl (QOk.ldMWA rfl (by assumption)) rfl ?_ | refine RO.q0 rfl (QOk.ldM0 rfl (by assumption)) rfl ?_ | refine RO.q0 rfl (QOk.ldM0A rfl (by assumption)) rfl ?_ | refine RO.q0 rfl (QOk.loadMem0 rfl (by assumption)) rfl ?_); all_goals (refine RO.q0 rfl (QOk.move rfl) rfl ?_); all_goals (refine RO.ef rfl (c_at rfl hrt ⟨hl, hn⟩ (fun q hat hq => ?_) (fun hat => ?_))); all_goals (refine RO.q0 rfl (QOk.move rfl) rfl ?_); all_goals (refine RO.q0 rfl (QOk.extract rfl rfl) rfl ?_); all_goals (refine RO.q0 rfl (QOk.extract rfl rfl) rfl ?_); all_goals (refine RO.ef rfl (OpOk.alloc (fun b => ?_))); all_goals (first | refine RO.ef0 (OpOk.store rfl rfl rfl ?_) | refine RO.ef0 (OpOk.storeL rfl rfl rfl (by assumption) ?_) | refine RO.ef0 (OpOk.storeL rfl rfl (hone2 _ (by assumption)) (hset3 _ (by assumption)) ?_) | refine RO.ef0 (OpOk.storeL rfl rfl (hone _ (by assumption)) (hset _ (by assumption)) ?_) | refine RO.ef0 (OpOk.storeL rfl rfl hone4 hset4 ?_)); all_goals (refine RO.q0 rfl (QOk.assign rfl) rfl ?_); all_goals refine RO.nil ?_) | (refine R.region (id := 4) ?_; all_goals (refine RO.q0 rfl (QOk.move rfl) rfl ?_); all_goals (first | refine RO.q0 rfl (QOk.notT rfl) rfl ?_ | refine RO.q0 rfl (QOk.notF rfl) rfl ?_); all_goals refine RO.nil ?_) | (refine R.region (id := 5) ?_; all_goals (refine RO.q0 rfl (QOk.build rfl) rfl ?_); all_goals (first | refine RO.ef0 (OpOk.store rfl rfl rfl ?_) | refine RO.ef0 (OpOk.storeL rfl rfl rfl (by assumption) ?_) | refine RO.ef0 (OpOk.storeL rfl rfl (hone2 _ (by assumption)) (hset3 _ (by assumption)) ?_) | refine RO.ef0 (OpOk.storeL rfl rfl (hone _ (by assumption)) (hset _ (by assumption)) ?_) | refine RO.ef0 (OpOk.storeL rfl rfl hone4 hset4 ?_)); all_goals (refine RO.q0 rfl (QOk.assign rfl) rfl ?_); all_goals refine RO.nil ?_) | (refine R.region (id := 6) ?_; all_goals (first | refine RO.ld rfl rfl ?_ | refine RO.ldA rfl rfl ?_ | refine RO.ldL rfl rfl (by assumption) ?_ | refine RO.ldLA rfl rfl (by assumption) (by first | rfl | assumption) ?_ | refine RO.ldLW rfl rfl (by assumption) ?_ | refine RO.ef rfl (OpOk.quietE rfl hE1 (QOk.loadA rfl (look_self.reads .here) hl3) ?_) | refine RO.q0 rfl (QOk.ldM rfl (by assumption)) rfl ?_ | refine RO.q0 rfl (QOk.ldMA rfl (by assumption) (by first | rfl | assumption)) rfl ?_ | refine RO.q0 rfl (QOk.ldMW rfl (by assumption)) rfl ?_ | refine RO.q0 rfl (QOk.ldMWA rfl (by assumption)) rfl ?_ | refine RO.q0 rfl (QOk.ldM0 rfl (by assumption)) rfl ?_ | refine RO.q0 rfl (QOk.ldM0A rfl (by assumption)) rfl ?_ | refine RO.q0 rfl (QOk.loadMem0 rfl (by assumption)) rfl ?_); all_goals (first | refine RO.ef rfl (c_copiedT hC hcx rfl (fun y hy => have : Len (vals y) 8 := Len.of (hLen y hy); ?_)) | refine RO.ef rfl (c_copiedT hC2 hcx2 rfl (fun y2 hy2 => have : Len (vals y2) 8 := Len.of (hLen2 y2 hy2); ?_))); all_goals (refine RO.ef rfl (OpOk.alloc (fun b => ?_))); all_goals (first | refine RO.ef0 (OpOk.store rfl rfl rfl ?_) | refine RO.ef0 (OpOk.storeL rfl rfl rfl (by assumption) ?_) | refine RO.ef0 (OpOk.storeL rfl rfl (hone2 _ (by assumption)) (hset3 _ (by assumption)) ?_) | refine RO.ef0 (OpOk.storeL rfl rfl (hone _ (by assumption)) (hset _ (by assumption)) ?_) | refine RO.ef0 (OpOk.storeL rfl rfl hone4 hset4 ?_)); all_goals refine RO.nil ?_) | (refine R.region (id := 7) ?_; all_goals (refine RO.q0 rfl (QOk.assign rfl) rfl ?_); all_goals refine RO.nil ?_) | (refine R.region (id := 8) ?_; all_goals (refine RO.q0 rfl (QOk.move rfl) rfl ?_); all_goals (first | refine RO.q0 rfl (QOk.lenSlice rfl) rfl ?_ | refine RO.q0 rfl (QOk.lenStr rfl) rfl ?_ | refine RO.q0 rfl (QOk.lenArr rfl) rfl ?_); all_goals (refine RO.q0 rfl (QOk.move rfl) rfl ?_); all_goals refine RO.nil ?_))
    · rename_i b3 b5 b6 b8
      rcases at_lk l h hr hk with ⟨h1, _⟩ | ⟨q', yq, p', h1, h3, _, _, _⟩
      · rw [hat] at h1; cases h1
      generalize b = b10 at *
      have hne : atPf p l ≠ none := by rw [h3]; simp
      refine R.pick (A := [cel b10 30 (vals y), ownL none y, cel b6 30 zPH.cells, cel b5 30 t2.h.cells]) (by repeat (first | exact Pick.nil | apply Pick.cons (by (repeat (first | exact .here | apply Take.there)); (first | done | fail)))) ?_
      refine R.ent (own' := [cel b10 30 (vals y), ownL none y, star [], cel b6 30 zPH.cells, cel b5 30 t2.h.cells]) (Ent.cons _ (Ent.cons _ (Ent.append (A := []) (B := [_]) Ent.toStar (.refl _)))) ?_
      refine R.sub (e' := [(31, .int .i64 0), (30, .int .i64 n), (29, .slice a n cap), (11, .pointer (some ⟨b10, 0, none⟩)), (10, .pointer (some ⟨b10, 0, none⟩)), (6, .pointer (some ⟨b6, 0, none⟩)), (5, .pointer (some ⟨b5, 0, none⟩))]) (by repeat (first | exact Sub.nil | refine Sub.cons rfl ?_)) ?_
      refine R.loop (fun k e own gx => gx = g2 ∧ ∃ (i b off T : Nat) (iv : Int) (L : List Value) (yi : List DV) (U : List HProp) (f : List DV → List DV) (pi : Pf) (Fp : Pf → Pf), iv = i ∧ i + k = n ∧ Zip 30 b10 T b off 8 L yi U f ∧ shL yi = encP pi ∧
        atPf pi (l.drop i) ≠ none ∧ (∀ z pz, shL z = encP pz → shL (f z) = encP (Fp pz)) ∧ setPf p l part = Fp (setPf pi (l.drop i) part) ∧ own = [cel b T L, ownL none yi, star U, cel b6 30 zPH.cells, cel b5 30 t2.h.cells] ∧
        e = [(31, .int .i64 iv), (30, .int .i64 n), (29, .slice a n cap), (11, .pointer (some ⟨b, off, none⟩)), (10, .pointer (some ⟨b10, 0, none⟩)), (6, .pointer (some ⟨b6, 0, none⟩)), (5, .pointer (some ⟨b5, 0, none⟩))]) ?_ n
        ⟨rfl, 0, b10, 0, 30, 0, _, y, [], id, p, id, rfl, by omega, Zip.start (hLen y hy), hy.trans h, hne, fun _ _ h => h, rfl, rfl, rfl⟩
      rintro k e own gx ⟨rfl, i, b, off, T, _, L, yi, U, f, pi, Fp, rfl, hik, hz, hyi, hpi, hf, hset2, rfl, rfl⟩ ih
      rcases Nat.eq_zero_or_pos k with rfl | hk0
      · have hdn : l.drop i = [] := by rw [List.drop_eq_nil_iff]; omega
        rw [hdn, setPf] at hset2
        have hl2 : (vals x2).length = 8 := vals_len h2
        obtain ⟨L2, hS1, hS2⟩ := hz.self.again (vs' := vals x2) (by rw [hl2, hz.yl])
        have hE := hz.close (some gx) x2 L2 hl2 hS2
        have hfx := hf x2 part h2
        rw [← hcx2] at hS2
        repeat' (first | refine R.seq ?_ | refine R.skip ?_ | refine R.inBlock ?_ | refine R.block ?_ | refine R.condT rfl ?_ | refine R.condF rfl ?_ | refine R.exit rfl ?_ | refine R.label ?_ | (refine R.region (id := 9) ?_; all_goals (first | refine RO.q0 rfl (QOk.cmpT rfl rfl rfl (by first | decide | omega)) rfl ?_ | refine RO.q0 rfl (QOk.cmpF rfl rfl rfl (by first | decide | omega)) rfl ?_ | refine RO.q0 rfl (QOk.strCmp rfl rfl rfl (by first | assumption | rfl)) rfl ?_ | refine RO.q0 rfl (QOk.boolEq rfl rfl) rfl ?_ | refine RO.q0 rfl (QOk.boolNe rfl rfl) rfl ?_ | refine RO.q0 rfl (QOk.sliceNil rfl rfl rfl) rfl ?_ | refine RO.q0 rfl (QOk.sliceNotNil rfl rfl rfl) rfl ?_ | refine RO.q0 rfl (QOk.eqIT rfl rfl rfl (by first | decide | assumption | (simp only [List.cons.injEq]; omega))) rfl ?_ | refine RO.q0 rfl (QOk.eqIF rfl rfl rfl (by first | decide | assumption | (simp only [List.cons.injEq]; omega))) rfl ?_ | refine RO.cmpS rfl rfl rfl rfl (fun h => ?_) (fun h => ?_)); all_goals refine RO.nil ?_) | (refine R.region (id := 13) ?_; all_goals (refine RO.q0 rfl (QOk.move rfl) rfl ?_); all_goals (first | refine RO.ld rfl rfl ?_ | refine RO.ldA rfl rfl ?_ | refine RO.ldL rfl rfl (by assumption) ?_ | refine RO.ldLA rfl rfl (by assumption) (by first | rfl | assumption) ?_ | refine RO.ldLW rfl rfl (by assumption) ?_ | refine RO.ef rfl (OpOk.quietE rfl hE1 (QOk.loadA rfl (look_self.reads .here) hl3) ?_) | refine RO.q0 rfl (QOk.ldM rfl (by assumption)) rfl ?_ | refine RO.q0 rfl (QOk.ldMA rfl (by assumption) (by first | rfl | assumption)) rfl ?_ | refine RO.q0 rfl (QOk.ldMW rfl (by assumption)) rfl ?_ | refine RO.q0 rfl (QOk.ldMWA rfl (by assumption)) rfl ?_ | refine RO.q0 rfl (QOk.ldM0 rfl (by assumption)) rfl ?_ | refine RO.q0 rfl (QOk.ldM0A rfl (by assumption)) rfl ?_ | refine RO.q0 rfl (QOk.loadMem0 rfl (by assumption)) rfl ?_); all_goals (first | refine RO.q0 rfl (QOk.nilCheck rfl) rfl ?_ | refine RO.q0 rfl (QOk.nilCheckF rfl) rfl ?_); all_goals (first | refine RO.ef0 (OpOk.store rfl rfl rfl ?_) | refine RO.ef0 (OpOk.storeL rfl rfl rfl (by assumption) ?_) | refine RO.ef0 (OpOk.storeL rfl rfl (hone2 _ (by assumption)) (hset3 _ (by assumption)) ?_) | refine RO.ef0 (OpOk.storeL rfl rfl (hone _ (by assumption)) (hset _ (by assumption)) ?_) | refine RO.ef0 (OpOk.storeL rfl rfl hone4 hset4 ?_)); all_goals refine RO.nil ?_))
        refine R.pick (A := [cel b T L2, star U, cel b6 30 zPH.cells, cel b5 30 t2.h.cells]) (by repeat (first | exact Pick.nil | apply Pick.cons (by (repeat (first | exact .here | apply Take.there)); (first | done | fail)))) ?_
        have hE1 : Ent [cel b T L2, star U, cel b6 30 zPH.cells, cel b5 30 t2.h.cells] ([cel b10 30 (vals (f x2))] ++ [ownL (some gx) (f x2), cel b6 30 zPH.cells, cel b5 30 t2.h.cells]) :=
          Ent.append (A := [_, _]) (B := [_, _]) ((Ent.cons _ (Ent.append (A := []) (B := [_]) (Ent.stillL hr2) (.refl [star U]))).trans hE) (.refl _)
        have hl3 : (vals (f x2)).length = 8 := vals_len hfx
        have hFz : ∀ g1, Le gx g1 → Frz [cel b T L2, star U] g1 → RpL g1 (f x2) := fun g1 hle hf1 =>
          Frz.rpL (m := some gx) (fun g0 h0 => by cases h0; exact hle) _ ((hf1.ent ((Ent.cons _ (Ent.append (A := []) (B := [_]) (Ent.stillL hr2) (.refl [star U]))).trans hE)).cons).2
        have hLen2 : ∀ y', shL y' = shL x2 → (vals y').length = 8 := fun y' hy => vals_len (hy.trans h2)
        have hone2 := fun y' (hy : shL y' = shL x2) => shL_one hy (RpL.one hr2)
        obtain ⟨F3, hF3⟩ : ∃ F3 : List DV → List Value, ∀ y', shL y' = shL x2 → SetOk L2 off (vals y') (F3 y') ∧ SetOk L off (vals y') (F3 y') := by
          refine ⟨fun y' => L.take off ++ vals y' ++ L.drop (off + (vals y').length), fun y' hy => ?_⟩
          obtain ⟨L3, k1, k2⟩ := hS1.again (vs' := vals y') (by rw [hLen2 y' hy, hl2])
          obtain rfl := k2.1
          exact ⟨k1, k2⟩
        have hset3 := fun y' hy => (hF3 y' hy).1
        cases hmb : msrS (pfS (Fp part))
        · repeat' (first | refine R.seq ?_ | refine R.skip ?_ | refine R.inBlock ?_ | refine R.block ?_ | refine R.condT rfl ?_ | refine R.condF rfl ?_ | refine R.exit rfl ?_ | refine R.label ?_ | (refine R.region (id := 14) ?_; all_goals (first | refine RO.ld rfl rfl ?_ | refine RO.ldA rfl rfl ?_ | refine RO.ldL rfl rfl (by assumption) ?_ | refine RO.ldLA rfl rfl (by assumption) (by first | rfl | assumption) ?_ | refine RO.ldLW rfl rfl (by assumption) ?_ | refine RO.ef rfl (OpOk.quietE rfl hE1 (QOk.loadA rfl (look_self.reads .here) hl3) ?_) | refine RO.q0 rfl (QOk.ldM rfl (by assumption)) rfl ?_ | refine RO.q0 rfl (QOk.ldMA rfl (by assumption) (by first | rfl | assumption)) rfl ?_ | refine RO.q0 rfl (QOk.ldMW rfl (by assumption)) rfl ?_ | refine RO.q0 rfl (QOk.ldMWA rfl (by assumption)) rfl ?_ | refine RO.q0 rfl (QOk.ldM0 rfl (by assumption)) rfl ?_ | refine RO.q0 rfl (QOk.ldM0A rfl (by assumption)) rfl ?_ | refine RO.q0 rfl (QOk.loadMem0 rfl (by assumption)) rfl ?_); all_goals (first | refine RO.ef rfl (c_measurable rfl hrt (by assumption) (fun g2 hle => have hrt := hrt.mono hle; have hr := hr.mono hle; have hl := hl.mono hle; have hr2 := hr2.mono hle; have hC := copied_ok p g2 x h hr; ?_)) | refine RO.ef rfl (c_measLend hfx hFz (by assumption) rfl (by repeat (first | exact Pick.nil | apply Pick.cons (by (repeat (first | exact .here | apply Take.there)); (first | done | fail)))) (fun g2 hle => have hr2 := hr2.mono hle; have hC2 := copied_ok part g2 x2 h2 hr2; ?_))); all_goals (first | refine RO.q0 rfl (QOk.notT rfl) rfl ?_ | refine RO.q0 rfl (QOk.notF rfl) rfl ?_); all_goals refine RO.nil ?_) | (refine R.region (id := 15) ?_; all_goals (refine RO.q0 rfl (QOk.build rfl) rfl ?_); all_goals (first | refine RO.ef0 (OpOk.store rfl rfl rfl ?_) | refine RO.ef0 (OpOk.storeL rfl rfl rfl (by assumption) ?_) | refine RO.ef0 (OpOk.storeL rfl rfl (hone2 _ (by assumption)) (hset3 _ (by assumption)) ?_) | refine RO.ef0 (OpOk.storeL rfl rfl (hone _ (by assumption)) (hset _ (by assumption)) ?_) | refine RO.ef0 (OpOk.storeL rfl rfl hone4 hset4 ?_)); all_goals (refine RO.q0 rfl (QOk.assign rfl) rfl ?_); all_goals refine RO.nil ?_))
          exact R.ret0 Try.func24 rfl (.cA rfl (.tmp rfl .nil)) fun _ => .inr (.inr (.inl ⟨by rw [← hm, hb], hne, by rw [hset2]; exact hmb, rfl, rfl⟩))
        · repeat' (first | refine R.seq ?_ | refine R.skip ?_ | refine R.inBlock ?_ | refine R.block ?_ | refine R.condT rfl ?_ | refine R.condF rfl ?_ | refine R.exit rfl ?_ | refine R.label ?_ | (refine R.region (id := 14) ?_; all_goals (first | refine RO.ld rfl rfl ?_ | refine RO.ldA rfl rfl ?_ | refine RO.ldL rfl rfl (by assumption) ?_ | refine RO.ldLA rfl rfl (by assumption) (by first | rfl | assumption) ?_ | refine RO.ldLW rfl rfl (by assumption) ?_ | refine RO.ef rfl (OpOk.quietE rfl hE1 (QOk.loadA rfl (look_self.reads .here) hl3) ?_) | refine RO.q0 rfl (QOk.ldM rfl (by assumption)) rfl ?_ | refine RO.q0 rfl (QOk.ldMA rfl (by assumption) (by first | rfl | assumption)) rfl ?_ | refine RO.q0 rfl (QOk.ldMW rfl (by assumption)) rfl ?_ | refine RO.q0 rfl (QOk.ldMWA rfl (by assumption)) rfl ?_ | refine RO.q0 rfl (QOk.ldM0 rfl (by assumption)) rfl ?_ | refine RO.q0 rfl (QOk.ldM0A rfl (by assumption)) rfl ?_ | refine RO.q0 rfl (QOk.loadMem0 rfl (by assumption)) rfl ?_); all_goals (first | refine RO.ef rfl (c_measurable rfl hrt (by assumption) (fun g2 hle => have hrt := hrt.mono hle; have hr := hr.mono hle; have hl := hl.mono hle; have hr2 := hr2.mono hle; have hC := copied_ok p g2 x h hr; ?_)) | refine RO.ef rfl (c_measLend hfx hFz (by assumption) rfl (by repeat (first | exact Pick.nil | apply Pick.cons (by (repeat (first | exact .here | apply Take.there)); (first | done | fail)))) (fun g2 hle => have hr2 := hr2.mono hle; have hC2 := copied_ok part g2 x2 h2 hr2; ?_))); all_goals (first | refine RO.q0 rfl (QOk.notT rfl) rfl ?_ | refine RO.q0 rfl (QOk.notF rfl) rfl ?_); all_goals refine RO.nil ?_) | (refine R.region (id := 16) ?_; all_goals (refine RO.q0 rfl (QOk.move rfl) rfl ?_); all_goals (first | refine RO.ld rfl rfl ?_ | refine RO.ldA rfl rfl ?_ | refine RO.ldL rfl rfl (by assumption) ?_ | refine RO.ldLA rfl rfl (by assumption) (by first | rfl | assumption) ?_ | refine RO.ldLW rfl rfl (by assumption) ?_ | refine RO.ef rfl (OpOk.quietE rfl hE1 (QOk.loadA rfl (look_self.reads .here) hl3) ?_) | refine RO.q0 rfl (QOk.ldM rfl (by assumption)) rfl ?_ | refine RO.q0 rfl (QOk.ldMA rfl (by assumption) (by first | rfl | assumption)) rfl ?_ | refine RO.q0 rfl (QOk.ldMW rfl (by assumption)) rfl ?_ | refine RO.q0 rfl (QOk.ldMWA rfl (by assumption)) rfl ?_ | refine RO.q0 rfl (QOk.ldM0 rfl (by assumption)) rfl ?_ | refine RO.q0 rfl (QOk.ldM0A rfl (by assumption)) rfl ?_ | refine RO.q0 rfl (QOk.loadMem0 rfl (by assumption)) rfl ?_); all_goals (first | refine RO.ef rfl (c_copiedT hC hcx rfl (fun y hy => have : Len (vals y) 8 := Len.of (hLen y hy); ?_)) | refine RO.ef rfl (c_copiedT hC2 hcx2 rfl (fun y2 hy2 => have : Len (vals y2) 8 := Len.of (hLen2 y2 hy2); ?_))); all_goals (first | refine RO.q0 rfl (QOk.nilCheck rfl) rfl ?_ | refine RO.q0 rfl (QOk.nilCheckF rfl) rfl ?_); all_goals (first | refine RO.ef0 (OpOk.store rfl rfl rfl ?_) | refine RO.ef0 (OpOk.storeL rfl rfl rfl (by assumption) ?_) | refine RO.ef0 (OpOk.storeL rfl rfl (hone2 _ (by assumption)) (hset3 _ (by assumption)) ?_) | refine RO.ef0 (OpOk.storeL rfl rfl (hone _ (by assumption)) (hset _ (by assumption)) ?_) | refine RO.ef0 (OpOk.storeL rfl rfl hone4 hset4 ?_)); all_goals refine RO.nil ?_))
          have hfy := hf y2 part (hy2.trans h2)
          have hl4 : (vals (f y2)).length = 8 := vals_len hfy
          have hlen4 := Len.of hl4
          refine R.pick (A := [cel b T (F3 y2), ownL none y2, star U, cel b6 30 zPH.cells, cel b5 30 t2.h.cells]) (by repeat (first | exact Pick.nil | apply Pick.cons (by (repeat (first | exact .here | apply Take.there)); (first | done | fail)))) ?_
          refine R.ent (own' := [cel b10 30 (vals (f y2)), ownL none (f y2), cel b6 30 zPH.cells, cel b5 30 t2.h.cells])
            (Ent.append (A := [_, _, _]) (B := [_, _]) (hz.close none y2 (F3 y2) (hLen2 y2 hy2) (hF3 y2 hy2).2) (.refl _)) ?_
          have hlk4 : Look (vals (f y2)) 0 (vals (f y2)) := look_self
          have hone4 := encP_one hfy
          have hset4 : SetOk zPH.cells 0 (vals (f y2)) (vals (f y2)) := setOk_all (by rw [hl4]; rfl)
          repeat' (first | refine R.seq ?_ | refine R.skip ?_ | refine R.inBlock ?_ | refine R.block ?_ | refine R.condT rfl ?_ | refine R.condF rfl ?_ | refine R.exit rfl ?_ | refine R.label ?_ | (refine R.region (id := 17) ?_; all_goals (first | refine RO.ld rfl rfl ?_ | refine RO.ldA rfl rfl ?_ | refine RO.ldL rfl rfl (by assumption) ?_ | refine RO.ldLA rfl rfl (by assumption) (by first | rfl | assumption) ?_ | refine RO.ldLW rfl rfl (by assumption) ?_ | refine RO.ef rfl (OpOk.quietE rfl hE1 (QOk.loadA rfl (look_self.reads .here) hl3) ?_) | refine RO.q0 rfl (QOk.ldM rfl (by assumption)) rfl ?_ | refine RO.q0 rfl (QOk.ldMA rfl (by assumption) (by first | rfl | assumption)) rfl ?_ | refine RO.q0 rfl (QOk.ldMW rfl (by assumption)) rfl ?_ | refine RO.q0 rfl (QOk.ldMWA rfl (by assumption)) rfl ?_ | refine RO.q0 rfl (QOk.ldM0 rfl (by assumption)) rfl ?_ | refine RO.q0 rfl (QOk.ldM0A rfl (by assumption)) rfl ?_ | refine RO.q0 rfl (QOk.loadMem0 rfl (by assumption)) rfl ?_); all_goals (first | refine RO.ef0 (OpOk.store rfl rfl rfl ?_) | refine RO.ef0 (OpOk.storeL rfl rfl rfl (by assumption) ?_) | refine RO.ef0 (OpOk.storeL rfl rfl (hone2 _ (by assumption)) (hset3 _ (by assumption)) ?_) | refine RO.ef0 (OpOk.storeL rfl rfl (hone _ (by assumption)) (hset _ (by assumption)) ?_) | refine RO.ef0 (OpOk.storeL rfl rfl hone4 hset4 ?_)); all_goals (refine RO.q0 rfl (QOk.assign rfl) rfl ?_); all_goals refine RO.nil ?_))
          exact R.retK Try.func24 rfl (.cellA rfl (look_self.reads (by (repeat (first | exact .here | apply Take.there)); (first | done | fail))) hl4 (.tmp rfl .nil)) (A := [ownL none (f y2)]) (by repeat (first | exact Pick.nil | apply Pick.cons (by (repeat (first | exact .here | apply Take.there)); (first | done | fail)))) fun _ =>
            .inr (.inr (.inr ⟨by rw [← hm, hb], hne, by rw [hset2]; exact hmb, f y2, by rw [hset2]; exact hfy, rfl, rfl⟩))
      · have hil : i < l.length := by omega
        have hdrop : l.drop i = l[i] :: l.drop (i + 1) := List.drop_eq_getElem_cons hil
        obtain ⟨b1, o1, rfl, hm1⟩ := hl.at_ i [.int .i64 l[i]] (by simp [ints, hil])
        rw [hdrop] at hpi hset2
        generalize l[i] = j at *
        obtain ⟨r, ⟨o, nm, ts, fs⟩, lab, ss, ms⟩ := pi
        obtain ⟨T1, a1, n1, c1, es, T2, a2, n2, c2, es', Ts, sa, sn, sc, su, Tm, ma, mn, mc, mm, rfl, i1, i2, i3, i4⟩ := invP hyi
        obtain ⟨hlen, hget⟩ := shLL_get i3
        rw [atPf] at hpi
        rw [setPf] at hset2
        have hj0 : 0 ≤ j := by
          by_cases h0 : 0 ≤ j
          · exact h0
          · rw [if_neg h0] at hpi; exact absurd rfl hpi
        rw [if_pos hj0] at hpi
        have hjl : j.toNat < ss.length := by
          by_cases h0 : j.toNat < ss.length
          · exact h0
          · rw [List.getElem?_eq_none (by omega)] at hpi; exact absurd rfl hpi
        have e1 : su[j.toNat]? = some su[j.toNat] := List.getElem?_eq_getElem (by omega)
        have e2 : ss[j.toNat]? = some ss[j.toNat] := List.getElem?_eq_getElem hjl
        rw [e2] at hpi hset2
        dsimp only at hpi hset2
        have hgy := hget _ _ _ e1 e2
        generalize ss[j.toNat] = pj at *
        generalize su[j.toNat] = yj at *
        refine R.pick (A := [ownL none ([.at (.string r), .at (.int .u8 o), .at (.string nm), .sl T1 3 a1 n1 c1 es, .sl T2 4 a2 n2 c2 es', .at (.int .i64 lab)] ++ .sl Ts 8 sa sn sc su :: [.sl Tm 1 ma mn mc mm]), cel b T L, star U, cel b6 30 zPH.cells, cel b5 30 t2.h.cells]) (by repeat (first | exact Pick.nil | apply Pick.cons (by (repeat (first | exact .here | apply Take.there)); (first | done | fail)))) ?_
        refine R.ownOpen fun hmax => ?_
        refine R.openSl (fun _ h0 _ h9 => absurd h9 (by intro h9; rw [List.map_eq_nil_iff] at h9; subst h9; simp at e1)) ?_
        intro b7 sp ha hsn hel hc1 hc2 hsp
        subst ha
        refine R.ent (own' := [cel b7 Ts ((su.map vals).flatten ++ sp), ownL none yj, ownLL none (su.eraseIdx j.toNat), ownL none [.at (.string r), .at (.int .u8 o), .at (.string nm), .sl T1 3 a1 n1 c1 es, .sl T2 4 a2 n2 c2 es', .at (.int .i64 lab)], ownL none [.sl Tm 1 ma mn mc mm], cel b T L, star U, cel b6 30 zPH.cells, cel b5 30 t2.h.cells]) (Ent.cons _ (Ent.head (Ent.ownLLAt e1))) ?_
        have hstep := Zip.step (A := [.at (.string r), .at (.int .u8 o), .at (.string nm), .sl T1 3 a1 n1 c1 es, .sl T2 4 a2 n2 c2 es', .at (.int .i64 lab)]) (B := [.sl Tm 1 ma mn mc mm]) hz e1 (by simpa using hsn) hel hc1 hc2 hsp hmax
        have hlk : Look L off [.string r, .int .u8 o, .string nm, .slice a1 n1 c1, .slice a2 n2 c2, .int .i64 lab, .slice (some ⟨b7, 0, none⟩) sn sc, .slice ma mn mc] := setOk_look hz.self
        have hsn2 : sn = su.length := by simpa using hsn
        repeat' (first | refine R.seq ?_ | refine R.skip ?_ | refine R.inBlock ?_ | refine R.block ?_ | refine R.condT rfl ?_ | refine R.condF rfl ?_ | refine R.exit rfl ?_ | refine R.label ?_ | (refine R.region (id := 9) ?_; all_goals (first | refine RO.q0 rfl (QOk.cmpT rfl rfl rfl (by first | decide | omega)) rfl ?_ | refine RO.q0 rfl (QOk.cmpF rfl rfl rfl (by first | decide | omega)) rfl ?_ | refine RO.q0 rfl (QOk.strCmp rfl rfl rfl (by first | assumption | rfl)) rfl ?_ | refine RO.q0 rfl (QOk.boolEq rfl rfl) rfl ?_ | refine RO.q0 rfl (QOk.boolNe rfl rfl) rfl ?_ | refine RO.q0 rfl (QOk.sliceNil rfl rfl rfl) rfl ?_ | refine RO.q0 rfl (QOk.sliceNotNil rfl rfl rfl) rfl ?_ | refine RO.q0 rfl (QOk.eqIT rfl rfl rfl (by first | decide | assumption | (simp only [List.cons.injEq]; omega))) rfl ?_ | refine RO.q0 rfl (QOk.eqIF rfl rfl rfl (by first | decide | assumption | (simp only [List.cons.injEq]; omega))) rfl ?_ | refine RO.cmpS rfl rfl rfl rfl (fun h => ?_) (fun h => ?_)); all_goals refine RO.nil ?_) | (refine R.region (id := 10) ?_; all_goals (first | refine RO.q0 rfl (QOk.indexAddrC rfl rfl rfl) rfl ?_ | refine RO.q0 rfl (QOk.indexAddrAC rfl rfl rfl) rfl ?_ | refine RO.q0 rfl (QOk.indexAddr rfl rfl (by omega)) rfl ?_ | refine RO.q0 rfl (QOk.indexAddrA rfl rfl (by omega)) rfl ?_); all_goals (first | refine RO.ld rfl rfl ?_ | refine RO.ldA rfl rfl ?_ | refine RO.ldL rfl rfl (by assumption) ?_ | refine RO.ldLA rfl rfl (by assumption) (by first | rfl | assumption) ?_ | refine RO.ldLW rfl rfl (by assumption) ?_ | refine RO.ef rfl (OpOk.quietE rfl hE1 (QOk.loadA rfl (look_self.reads .here) hl3) ?_) | refine RO.q0 rfl (QOk.ldM rfl (by assumption)) rfl ?_ | refine RO.q0 rfl (QOk.ldMA rfl (by assumption) (by first | rfl | assumption)) rfl ?_ | refine RO.q0 rfl (QOk.ldMW rfl (by assumption)) rfl ?_ | refine RO.q0 rfl (QOk.ldMWA rfl (by assumption)) rfl ?_ | refine RO.q0 rfl (QOk.ldM0 rfl (by assumption)) rfl ?_ | refine RO.q0 rfl (QOk.ldM0A rfl (by assumption)) rfl ?_ | refine RO.q0 rfl (QOk.loadMem0 rfl (by assumption)) rfl ?_); all_goals (refine RO.q0 rfl (QOk.assign rfl) rfl ?_); all_goals refine RO.nil ?_) | (refine R.region (id := 11) ?_; all_goals (refine RO.q0 rfl (QOk.move rfl) rfl ?_); all_goals (first | refine RO.q0 rfl (QOk.nilCheck rfl) rfl ?_ | refine RO.q0 rfl (QOk.nilCheckF rfl) rfl ?_); all_goals (first | refine RO.q0 rfl (QOk.fieldAddr0 rfl rfl) rfl ?_ | refine RO.q0 rfl (QOk.fieldAddrZ rfl rfl) rfl ?_ | refine RO.q0 rfl (QOk.fieldAddr rfl rfl) rfl ?_); all_goals (first | refine RO.ld rfl rfl ?_ | refine RO.ldA rfl rfl ?_ | refine RO.ldL rfl rfl (by assumption) ?_ | refine RO.ldLA rfl rfl (by assumption) (by first | rfl | assumption) ?_ | refine RO.ldLW rfl rfl (by assumption) ?_ | refine RO.ef rfl (OpOk.quietE rfl hE1 (QOk.loadA rfl (look_self.reads .here) hl3) ?_) | refine RO.q0 rfl (QOk.ldM rfl (by assumption)) rfl ?_ | refine RO.q0 rfl (QOk.ldMA rfl (by assumption) (by first | rfl | assumption)) rfl ?_ | refine RO.q0 rfl (QOk.ldMW rfl (by assumption)) rfl ?_ | refine RO.q0 rfl (QOk.ldMWA rfl (by assumption)) rfl ?_ | refine RO.q0 rfl (QOk.ldM0 rfl (by assumption)) rfl ?_ | refine RO.q0 rfl (QOk.ldM0A rfl (by assumption)) rfl ?_ | refine RO.q0 rfl (QOk.loadMem0 rfl (by assumption)) rfl ?_); all_goals (refine RO.q0 rfl (QOk.move rfl) rfl ?_); all_goals (first | refine RO.q0 rfl (QOk.indexAddrC rfl rfl rfl) rfl ?_ | refine RO.q0 rfl (QOk.indexAddrAC rfl rfl rfl) rfl ?_ | refine RO.q0 rfl (QOk.indexAddr rfl rfl (by omega)) rfl ?_ | refine RO.q0 rfl (QOk.indexAddrA rfl rfl (by omega)) rfl ?_); all_goals (refine RO.q0 rfl (QOk.assign rfl) rfl ?_); all_goals refine RO.nil ?_) | (refine R.region (id := 12) ?_; all_goals (first | refine RO.q0 rfl (QOk.arith rfl rfl rfl (w64 (by omega))) rfl ?_ | refine RO.q0 rfl (QOk.arith rfl rfl rfl (wu8 (by omega))) rfl ?_ | refine RO.q0 rfl (QOk.arith rfl rfl rfl (wu16 (by omega))) rfl ?_ | refine RO.q0 rfl (QOk.arith rfl rfl rfl (wu32 (by omega))) rfl ?_ | refine RO.q0 rfl (QOk.arith rfl rfl rfl (wu64 (by omega))) rfl ?_ | refine RO.q0 rfl (QOk.strAdd rfl rfl) rfl ?_); all_goals (refine RO.q0 rfl (QOk.move rfl) rfl ?_); all_goals refine RO.nil ?_))
        refine R.pick (A := [ownL none yj, cel b7 Ts ((su.map vals).flatten ++ sp), cel b T L, ownL none [.at (.string r), .at (.int .u8 o), .at (.string nm), .sl T1 3 a1 n1 c1 es, .sl T2 4 a2 n2 c2 es', .at (.int .i64 lab)], ownL none [.sl Tm 1 ma mn mc mm], ownLL none (su.eraseIdx j.toNat), star U, cel b6 30 zPH.cells, cel b5 30 t2.h.cells]) (by repeat (first | exact Pick.nil | apply Pick.cons (by (repeat (first | exact .here | apply Take.there)); (first | done | fail)))) ?_
        refine R.ent (own' := [ownL none yj, cel b7 Ts ((su.map vals).flatten ++ sp), star [cel b T L, ownL none [.at (.string r), .at (.int .u8 o), .at (.string nm), .sl T1 3 a1 n1 c1 es, .sl T2 4 a2 n2 c2 es', .at (.int .i64 lab)], ownL none [.sl Tm 1 ma mn mc mm], ownLL none (su.eraseIdx j.toNat), star U], cel b6 30 zPH.cells, cel b5 30 t2.h.cells])
          (Ent.cons _ (Ent.cons _ (Ent.append (A := [_, _, _, _, _]) (B := [_]) Ent.toStar (.refl _)))) ?_
        refine R.pick (A := [cel b7 Ts ((su.map vals).flatten ++ sp), ownL none yj, star _, cel b6 30 zPH.cells, cel b5 30 t2.h.cells]) (by repeat (first | exact Pick.nil | apply Pick.cons (by (repeat (first | exact .here | apply Take.there)); (first | done | fail)))) ?_
        refine R.sub (e' := [(31, .int .i64 _), (30, .int .i64 n), (29, .slice _ n cap), (11, .pointer (some ⟨b7, _, none⟩)), (10, .pointer (some ⟨b10, 0, none⟩)), (6, .pointer (some ⟨b6, 0, none⟩)), (5, .pointer (some ⟨b5, 0, none⟩))]) (by repeat (first | exact Sub.nil | refine Sub.cons rfl ?_)) ?_
        exact ih (k - 1) _ _ _ (by omega) ⟨rfl, i + 1, b7, 0 + j.toNat * 8, Ts, _, _, yj, _, _, pj, fun pz => Fp (.mk r (.mk o nm ts fs) lab (ss.set j.toNat pz) ms), by omega, by omega, hstep, hgy, hpi,
          fun z pz hzp => hf _ _ (encP_set rfl hyi hzp), hset2, rfl, rfl⟩
    · rcases at_lk l h hr hk with ⟨h1, h3⟩ | ⟨q', y, p', h1, _⟩
      · exact R.ret0 Try.func24 rfl (.cA rfl (.tmp rfl .nil)) fun _ => .inr (.inl ⟨by rw [← hm, hb], h3, rfl, rfl⟩)
      · rw [hat] at h1; cases h1
end Go.Proofs.Ytbdnfllpdlbboaa
