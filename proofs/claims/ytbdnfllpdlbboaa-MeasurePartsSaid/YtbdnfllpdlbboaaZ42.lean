import Derived.Test.YtbdnfllpdlbboaaZ35
import Derived.Test.YtbdnfllpdlbboaaZ17
namespace Go.Proofs.Ytbdnfllpdlbboaa
open Go Go.Zed
attribute [local irreducible] R RO RD OpOk QOk
set_option maxRecDepth 10000
set_option maxHeartbeats 4000000
/-! ### Copies -/
@[reducible] def CpRes (x : List DV) (v : Value) (own' : List HProp) (g' : Img) : Prop := own' = [] ∧ ∃ y, v = .agg (vals y).toArray ∧ shL y = shL x ∧ RpL g' y
@[reducible] def CpOk (f : Nat) (x : List DV) : Prop := ∀ (g : Img), RpL g x → ∀ F, Fc Try.prog f #[.agg (vals x).toArray] [] F g (fun v own' g' => CpRes x v own' g')
@[reducible] def CpSRes (T sz : Nat) (es : List (List DV)) (v : Value) (own' : List HProp) (g' : Img) : Prop := own' = [] ∧ ∃ a' n' c' es', v = .slice a' n' c' ∧ shLL es' = shLL es ∧ Rp g' (.sl T sz a' n' c' es')
@[reducible] def CpSl (f T sz : Nat) (a : Option Addr) (n c : Nat) (es : List (List DV)) : Prop := ∀ (g : Img), Rp g (.sl T sz a n c es) → ∀ F, Fc Try.prog f #[.slice a n c] [] F g (fun v own' g' => CpSRes T sz es v own' g')
theorem rpTag {g : Img} {T T' sz n c : Nat} {a : Option Addr} {es : List (List DV)} (h : Rp g (.sl T sz a n c es)) : Rp g (.sl T' sz a n c es) := by
  cases h with
  | sl h1 h2 h3 => exact .sl h1 h2 h3
section
variable {c : Cx} {g : Img} {D : List Deferred} {ty : TypeId} {e : List (Nat × Value)} {own r : List HProp} {K : Value → List HProp → Img → Prop} {xs : List Operand} {ats : Array TypeId} {fid N : Nat} {F0 : Frag} {g0 : Img} {Post : Value → List HProp → Img → Prop}
theorem c_copyS {f T sz n cap : Nat} {a : Option Addr} {es : List (List DV)} [CF Try.prog f] (hx : evs e xs = some [.slice a n cap]) (hc : ∀ F, Fc Try.prog f #[.slice a n cap] [] F g (fun v own' g' => CpSRes T sz es v own' g'))
    (hK : ∀ g2 a' n' c' es', Le g g2 → shLL es' = shLL es → Rp g2 (.sl T sz a' n' c' es') → K (.slice a' n' c') own g2) :
    OpOk (fnCx Try.prog fid N F0 g0 Post) D (.call { callee := .value (.func f), args := xs.toArray, argTypes := ats }) ty e own g K := by
  refine OpOk.callV (f := f) (fl := []) (cl := []) rfl hx hc .nil ?_
  rintro v own' g' hle ⟨rfl, a', n', c', es', rfl, h1, h2⟩
  exact hK g' a' n' c' es' hle h1 h2
theorem c_copyT {vs : List Value} {x : List DV} {b : Bool} {nm : ByteArray} {ar : List Tm} (hx : evs e xs = some vs) (hsh : shL x = encT (.mk b nm ar)) (hc : ∀ F, Fc Try.prog 77 vs.toArray [] F g (fun v own' g' => CpRes x v own' g'))
    (hK : ∀ g2 U a n c es, Le g g2 → shL [.at (.bool b), .at (.string nm), .sl U 3 a n c es] = shL x → RpL g2 [.at (.bool b), .at (.string nm), .sl U 3 a n c es] → K (.agg #[.bool b, .string nm, .slice a n c]) own g2) :
    OpOk (fnCx Try.prog fid N F0 g0 Post) D (.call { callee := .value (.func 77), args := xs.toArray, argTypes := ats }) ty e own g K := by
  refine OpOk.callV (f := 77) (fl := []) (cl := []) rfl hx (fun F => (show ([] ++ (vs ++ [])).toArray = vs.toArray by simp) ▸ hc F) .nil ?_
  rintro v own' g' hle ⟨rfl, y, rfl, h1, h2⟩
  obtain ⟨U, a, n, c, es, rfl, _⟩ := invT (h1.trans hsh)
  exact hK g' U a n c es hle h1 h2
theorem c_copyFm {vs : List Value} {x : List DV} {o : Int} {nm : ByteArray} {ts : List Tm} {fs : List Fm} (hx : evs e xs = some vs) (hsh : shL x = encF (.mk o nm ts fs)) (hc : ∀ F, Fc Try.prog 51 vs.toArray [] F g (fun v own' g' => CpRes x v own' g'))
    (hK : ∀ g2 U a n c es V a' n' c' es', Le g g2 → shL [.at (.int .u8 o), .at (.string nm), .sl U 3 a n c es, .sl V 4 a' n' c' es'] = shL x → RpL g2 [.at (.int .u8 o), .at (.string nm), .sl U 3 a n c es, .sl V 4 a' n' c' es'] → K (.agg #[.int .u8 o, .string nm, .slice a n c, .slice a' n' c']) own g2) :
    OpOk (fnCx Try.prog fid N F0 g0 Post) D (.call { callee := .value (.func 51), args := xs.toArray, argTypes := ats }) ty e own g K := by
  refine OpOk.callV (f := 51) (fl := []) (cl := []) rfl hx (fun F => (show ([] ++ (vs ++ [])).toArray = vs.toArray by simp) ▸ hc F) .nil ?_
  rintro v own' g' hle ⟨rfl, y, rfl, h1, h2⟩
  have h3 := h1.trans hsh
  rw [← List.append_nil (encF _)] at h3
  obtain ⟨U, a, n, c, es, V, a', n', c', es', z, rfl, _, _, hz⟩ := invF h3
  obtain rfl := shL_nil hz
  exact hK g' U a n c es V a' n' c' es' hle h1 h2
theorem c_copyPf {vs : List Value} {x : List DV} {r nm : ByteArray} {o lab : Int} {ts : List Tm} {fs : List Fm} {ss : List Pf} {ms : List (List Int)} (hx : evs e xs = some vs) (hsh : shL x = encP (.mk r (.mk o nm ts fs) lab ss ms)) (hc : ∀ F, Fc Try.prog 27 vs.toArray [] F g (fun v own' g' => CpRes x v own' g'))
    (hK : ∀ g2 U a n c es V a' n' c' es' X pa pn pc pe Y qa qn qc qe, Le g g2 → shL [.at (.string r), .at (.int .u8 o), .at (.string nm), .sl U 3 a n c es, .sl V 4 a' n' c' es', .at (.int .i64 lab), .sl X 8 pa pn pc pe, .sl Y 1 qa qn qc qe] = shL x →
      RpL g2 [.at (.string r), .at (.int .u8 o), .at (.string nm), .sl U 3 a n c es, .sl V 4 a' n' c' es', .at (.int .i64 lab), .sl X 8 pa pn pc pe, .sl Y 1 qa qn qc qe] → K (.agg #[.string r, .int .u8 o, .string nm, .slice a n c, .slice a' n' c', .int .i64 lab, .slice pa pn pc, .slice qa qn qc]) own g2) :
    OpOk (fnCx Try.prog fid N F0 g0 Post) D (.call { callee := .value (.func 27), args := xs.toArray, argTypes := ats }) ty e own g K := by
  refine OpOk.callV (f := 27) (fl := []) (cl := []) rfl hx (fun F => (show ([] ++ (vs ++ [])).toArray = vs.toArray by simp) ▸ hc F) .nil ?_
  rintro v own' g' hle ⟨rfl, y, rfl, h1, h2⟩
  obtain ⟨U, a, n, c, es, V, a', n', c', es', X, pa, pn, pc, pe, Y, qa, qn, qc, qe, rfl, _⟩ := invP (h1.trans hsh)
  exact hK g' U a n c es V a' n' c' es' X pa pn pc pe Y qa qn qc qe hle h1 h2
end
theorem cpInts_ok (F : Frag) (g : Img) {T : Nat} {a : Option Addr} {n cap : Nat} {l : List Int} (h : Rp g (.sl T 1 a n cap (encI l))) : Fc Try.prog 69 #[.slice a n cap] [] F g (fun v own' g' => CpSRes 3 1 (encI l) v own' g') := by
  cases h with
  | sl hsl hn hq =>
  have hone : ∀ u ∈ ((encI l).map vals).flatten, u.oneCell' = true := RpLL.one hq
  have hnl : n = (encI l).length := by simpa using hsl.len
  refine Fc.of_body (args := [_]) Try.func69 rfl rfl ?_
  refine R.nilSl 3 1 ?_
  repeat' (first | refine R.seq ?_ | refine R.skip ?_ | refine R.inBlock ?_ | refine R.block ?_ | refine R.condT rfl ?_ | refine R.condF rfl ?_ | refine R.exit rfl ?_ | refine R.label ?_ | (refine R.region (id := 0) ?_; all_goals (refine RO.q0 rfl (QOk.assign rfl) rfl ?_); all_goals refine RO.nil ?_) | (refine R.region (id := 1) ?_; all_goals (refine RO.q0 rfl (QOk.assign rfl) rfl ?_); all_goals refine RO.nil ?_) | (refine R.region (id := 2) ?_; all_goals (refine RO.q0 rfl (QOk.move rfl) rfl ?_); all_goals (refine RO.q0 rfl (QOk.move rfl) rfl ?_); all_goals (first | refine RO.ef rfl (OpOk.append1 rfl rfl rfl rfl (by omega) (by simp only [maxLen]; omega) (fun a cap => ?_)) | refine RO.ef rfl (OpOk.appendE rfl rfl (by assumption) (by assumption) rfl (by omega) (by simp only [maxLen]; omega) (fun a cap => ?_)) | refine RO.ef rfl (OpOk.appendG rfl rfl hsl.src hone rfl (by omega) (by simp only [maxLen]; omega) (fun a cap => ?_))); all_goals (refine RO.q0 rfl (QOk.assign rfl) rfl ?_); all_goals refine RO.nil ?_))
  refine R.freezeSlT (T := 3) (sz := 1) a fun g2 hle2 hsl2 => ?_
  exact R.ret0 Try.func69 rfl (.tmp rfl .nil) fun _ => ⟨rfl, _, _, _, encI l, rfl, rfl, .sl (by simpa using hsl2) hn fun x hx d hd => (hq x hx d hd).mono hle2⟩
theorem cpTLoop {a : Option Addr} {n c : Nat} {es : List (List DV)} {l : List Tm} (hl : shLL es = l.map encT) (IH : ∀ x ∈ es, CpOk 77 x) : CpSl 67 102 3 a n c es := by
  intro g hr F
  cases hr with
  | sl hs hn hq =>
  have hnl : n = es.length := by simpa using hs.len
  refine Fc.of_body (args := [_]) Try.func67 rfl rfl ?_
  repeat' (first | refine R.seq ?_ | refine R.skip ?_ | refine R.inBlock ?_ | refine R.block ?_ | refine R.condT rfl ?_ | refine R.condF rfl ?_ | refine R.exit rfl ?_ | refine R.label ?_ | (refine R.region (id := 0) ?_; all_goals (refine RO.q0 rfl (QOk.assign rfl) rfl ?_); all_goals refine RO.nil ?_) | (refine R.region (id := 1) ?_; all_goals (refine RO.q0 rfl (QOk.assign rfl) rfl ?_); all_goals refine RO.nil ?_) | (refine R.region (id := 2) ?_; all_goals (refine RO.q0 rfl (QOk.assign rfl) rfl ?_); all_goals refine RO.nil ?_))
  refine R.nilSl 102 3 ?_
  refine R.sub (e' := [(4, .int .i64 0), (3, .slice none 0 0), (0, .slice a n c)]) (by repeat (first | exact Sub.nil | refine Sub.cons rfl ?_)) ?_
  refine R.loop (fun k e own gx => Le g gx ∧ ∃ (j : Nat) (iv : Int) (ao : Option Addr) (co : Nat) (ys : List (List DV)) (ya : Option Addr), iv = j ∧ j + k = n ∧ ys.length = j ∧ shLL ys = shLL (es.take j) ∧ (∀ y ∈ ys, RpL gx y) ∧ own = [sl 102 3 ao j co (ys.map vals)] ∧
    e = [(4, .int .i64 iv), (3, .slice ao j co), (0, .slice a n c)]) ?_ n ⟨Le.refl _, 0, 0, none, 0, [], none, rfl, by omega, rfl, rfl, by simp, rfl, rfl⟩
  rintro k e own gx ⟨hle0, j, _, ao, co, ys, _, rfl, hjk, hjl, hys, hyr, rfl, rfl⟩ ih
  have hs := hs.mono hle0
  rcases Nat.eq_zero_or_pos k with rfl | hk
  · obtain rfl : j = n := by omega
    rw [List.take_of_length_le (by omega)] at hys
    repeat' (first | refine R.seq ?_ | refine R.skip ?_ | refine R.inBlock ?_ | refine R.block ?_ | refine R.condT rfl ?_ | refine R.condF rfl ?_ | refine R.exit rfl ?_ | refine R.label ?_ | (refine R.region (id := 3) ?_; all_goals (refine RO.q0 rfl (QOk.move rfl) rfl ?_); all_goals (refine RO.q0 rfl (QOk.move rfl) rfl ?_); all_goals (first | refine RO.q0 rfl (QOk.lenSlice rfl) rfl ?_ | refine RO.q0 rfl (QOk.lenStr rfl) rfl ?_ | refine RO.q0 rfl (QOk.lenArr rfl) rfl ?_); all_goals (first | refine RO.q0 rfl (QOk.cmpT rfl rfl rfl (by first | decide | omega)) rfl ?_ | refine RO.q0 rfl (QOk.cmpF rfl rfl rfl (by first | decide | omega)) rfl ?_ | refine RO.q0 rfl (QOk.strCmp rfl rfl rfl (by first | assumption | rfl)) rfl ?_ | refine RO.q0 rfl (QOk.boolEq rfl rfl) rfl ?_ | refine RO.q0 rfl (QOk.boolNe rfl rfl) rfl ?_ | refine RO.q0 rfl (QOk.sliceNil rfl rfl rfl) rfl ?_ | refine RO.q0 rfl (QOk.sliceNotNil rfl rfl rfl) rfl ?_ | refine RO.q0 rfl (QOk.eqIT rfl rfl rfl (by first | decide | assumption | (simp only [List.cons.injEq]; omega))) rfl ?_ | refine RO.q0 rfl (QOk.eqIF rfl rfl rfl (by first | decide | assumption | (simp only [List.cons.injEq]; omega))) rfl ?_ | refine RO.cmpS rfl rfl rfl rfl (fun h => ?_) (fun h => ?_)); all_goals refine RO.nil ?_) | (refine R.region (id := 7) ?_; all_goals (refine RO.q0 rfl (QOk.move rfl) rfl ?_); all_goals (refine RO.q0 rfl (QOk.assign rfl) rfl ?_); all_goals refine RO.nil ?_))
    refine R.freezeSlT (T := 102) (sz := 3) ao fun g2 hle2 hsl => ?_
    exact R.ret0 Try.func67 rfl (.tmp rfl .nil) fun _ => ⟨rfl, ao, j, co, ys, rfl, hys, .sl hsl (by omega) fun y hy d hd => (hyr y hy d hd).mono hle2⟩
  · have hil : j < es.length := by omega
    obtain ⟨b3, o3, rfl, hm3⟩ := hs.at_ j (vals es[j]) (by simp [hil])
    have hE := IH _ (List.getElem_mem hil) gx fun d hd => (hq _ (List.getElem_mem hil) d hd).mono hle0
    have htk := fun y => shLL_take (y := y) hys hil
    obtain ⟨⟨bb, nm, ar⟩, hsh⟩ : ∃ t, shL es[j] = encT t := by
      obtain ⟨t, _, ht⟩ := shLL_mem hl (List.getElem_mem hil)
      exact ⟨t, ht⟩
    generalize es[j] = x at *
    obtain ⟨Q, xa, xn, xc, xe, hxe, _⟩ := invT hsh
    subst hxe
    have hm3 : Mem gx b3 (o3 + j * 3) [.bool bb, .string nm, .slice xa xn xc] := hm3
    have hE : ∀ F, Fc Try.prog 77 #[.agg #[.bool bb, .string nm, .slice xa xn xc]] [] F gx (fun v own' g' => CpRes [.at (.bool bb), .at (.string nm), .sl Q 3 xa xn xc xe] v own' g') := hE
    repeat' (first | refine R.seq ?_ | refine R.skip ?_ | refine R.inBlock ?_ | refine R.block ?_ | refine R.condT rfl ?_ | refine R.condF rfl ?_ | refine R.exit rfl ?_ | refine R.label ?_ | (refine R.region (id := 3) ?_; all_goals (refine RO.q0 rfl (QOk.move rfl) rfl ?_); all_goals (refine RO.q0 rfl (QOk.move rfl) rfl ?_); all_goals (first | refine RO.q0 rfl (QOk.lenSlice rfl) rfl ?_ | refine RO.q0 rfl (QOk.lenStr rfl) rfl ?_ | refine RO.q0 rfl (QOk.lenArr rfl) rfl ?_); all_goals (first | refine RO.q0 rfl (QOk.cmpT rfl rfl rfl (by first | decide | omega)) rfl ?_ | refine RO.q0 rfl (QOk.cmpF rfl rfl rfl (by first | decide | omega)) rfl ?_ | refine RO.q0 rfl (QOk.strCmp rfl rfl rfl (by first | assumption | rfl)) rfl ?_ | refine RO.q0 rfl (QOk.boolEq rfl rfl) rfl ?_ | refine RO.q0 rfl (QOk.boolNe rfl rfl) rfl ?_ | refine RO.q0 rfl (QOk.sliceNil rfl rfl rfl) rfl ?_ | refine RO.q0 rfl (QOk.sliceNotNil rfl rfl rfl) rfl ?_ | refine RO.q0 rfl (QOk.eqIT rfl rfl rfl (by first | decide | assumption | (simp only [List.cons.injEq]; omega))) rfl ?_ | refine RO.q0 rfl (QOk.eqIF rfl rfl rfl (by first | decide | assumption | (simp only [List.cons.injEq]; omega))) rfl ?_ | refine RO.cmpS rfl rfl rfl rfl (fun h => ?_) (fun h => ?_)); all_goals refine RO.nil ?_) | (refine R.region (id := 5) ?_; all_goals (refine RO.q0 rfl (QOk.move rfl) rfl ?_); all_goals (refine RO.q0 rfl (QOk.move rfl) rfl ?_); all_goals (first | refine RO.q0 rfl (QOk.indexAddrC rfl rfl rfl) rfl ?_ | refine RO.q0 rfl (QOk.indexAddrAC rfl rfl rfl) rfl ?_ | refine RO.q0 rfl (QOk.indexAddr rfl rfl (by omega)) rfl ?_ | refine RO.q0 rfl (QOk.indexAddrA rfl rfl (by omega)) rfl ?_); all_goals (first | refine RO.ld rfl rfl ?_ | refine RO.ldA rfl rfl ?_ | refine RO.ldL rfl rfl (by assumption) ?_ | refine RO.ldLA rfl rfl (by assumption) (by first | rfl | assumption) ?_ | refine RO.ldLW rfl rfl (by assumption) ?_ | refine RO.q0 rfl (QOk.ldM rfl (by assumption)) rfl ?_ | refine RO.q0 rfl (QOk.ldMA rfl (by assumption) (by first | rfl | assumption)) rfl ?_ | refine RO.q0 rfl (QOk.ldMW rfl (by assumption)) rfl ?_ | refine RO.q0 rfl (QOk.ldMWA rfl (by assumption)) rfl ?_ | refine RO.q0 rfl (QOk.ldM0 rfl (by assumption)) rfl ?_ | refine RO.q0 rfl (QOk.ldM0A rfl (by assumption)) rfl ?_ | refine RO.q0 rfl (QOk.loadMem0 rfl (by assumption)) rfl ?_); all_goals (refine RO.ef rfl (c_copyT rfl hsh (fun F => hE F) (fun g2 U va vn vc ve hle hy hry => ?_))); all_goals (refine RO.ef rfl (OpOk.alloc (fun b => ?_))); all_goals (first | refine RO.ef0 (OpOk.store rfl rfl rfl ?_) | refine RO.ef0 (OpOk.storeL rfl rfl rfl (by assumption) ?_)); all_goals refine RO.nil ?_) | (refine R.region (id := 6) ?_; all_goals (refine RO.q0 rfl (QOk.move rfl) rfl ?_); all_goals (first | refine RO.ld rfl rfl ?_ | refine RO.ldA rfl rfl ?_ | refine RO.ldL rfl rfl (by assumption) ?_ | refine RO.ldLA rfl rfl (by assumption) (by first | rfl | assumption) ?_ | refine RO.ldLW rfl rfl (by assumption) ?_ | refine RO.q0 rfl (QOk.ldM rfl (by assumption)) rfl ?_ | refine RO.q0 rfl (QOk.ldMA rfl (by assumption) (by first | rfl | assumption)) rfl ?_ | refine RO.q0 rfl (QOk.ldMW rfl (by assumption)) rfl ?_ | refine RO.q0 rfl (QOk.ldMWA rfl (by assumption)) rfl ?_ | refine RO.q0 rfl (QOk.ldM0 rfl (by assumption)) rfl ?_ | refine RO.q0 rfl (QOk.ldM0A rfl (by assumption)) rfl ?_ | refine RO.q0 rfl (QOk.loadMem0 rfl (by assumption)) rfl ?_); all_goals (refine RO.ef rfl (OpOk.buildSlice rfl rfl (fun b => ?_))); all_goals (first | refine RO.ef rfl (OpOk.append1 rfl rfl rfl rfl (by omega) (by simp only [maxLen]; omega) (fun a cap => ?_)) | refine RO.ef rfl (OpOk.appendE rfl rfl (by assumption) (by assumption) rfl (by omega) (by simp only [maxLen]; omega) (fun a cap => ?_)) | refine RO.ef rfl (OpOk.appendG rfl rfl hsl.src hone rfl (by omega) (by simp only [maxLen]; omega) (fun a cap => ?_))); all_goals (refine RO.q0 rfl (QOk.assign rfl) rfl ?_); all_goals refine RO.nil ?_) | (refine R.region (id := 4) ?_; all_goals (refine RO.q0 rfl (QOk.move rfl) rfl ?_); all_goals (first | refine RO.q0 rfl (QOk.arith rfl rfl rfl (w64 (by omega))) rfl ?_ | refine RO.q0 rfl (QOk.arith rfl rfl rfl (wu8 (by omega))) rfl ?_ | refine RO.q0 rfl (QOk.arith rfl rfl rfl (wu16 (by omega))) rfl ?_ | refine RO.q0 rfl (QOk.arith rfl rfl rfl (wu32 (by omega))) rfl ?_ | refine RO.q0 rfl (QOk.arith rfl rfl rfl (wu64 (by omega))) rfl ?_ | refine RO.q0 rfl (QOk.strAdd rfl rfl) rfl ?_); all_goals (refine RO.q0 rfl (QOk.assign rfl) rfl ?_); all_goals refine RO.nil ?_))
    all_goals
      refine R.pick (A := [sl 102 3 _ (j + 1) _ _]) (by repeat (first | exact Pick.nil | apply Pick.cons (by (repeat (first | exact .here | apply Take.there)); (first | done | fail)))) ?_
      refine R.sub (e' := [(4, .int .i64 _), (3, .slice _ (j + 1) _), (0, .slice _ n c)]) (by repeat (first | exact Sub.nil | refine Sub.cons rfl ?_)) ?_
      refine ih (k - 1) _ _ _ (by omega) ⟨hle0.trans hle, j + 1, (j : Int) + 1, _, _, ys ++ [[.at (.bool bb), .at (.string nm), .sl U 3 va vn vc ve]], none, by omega, by omega, by simp [hjl], htk _ hy, fun y hm => ?_, by rw [List.map_append]; rfl, rfl⟩
      rcases List.mem_append.1 hm with hm | hm
      · exact (hyr y hm).mono hle
      · obtain rfl := List.mem_singleton.1 hm; exact hry
theorem cpFLoop {a : Option Addr} {n c : Nat} {es : List (List DV)} {l : List Fm} (hl : shLL es = l.map encF) (IH : ∀ x ∈ es, CpOk 51 x) : CpSl 68 26 4 a n c es := by
  intro g hr F
  cases hr with
  | sl hs hn hq =>
  have hnl : n = es.length := by simpa using hs.len
  refine Fc.of_body (args := [_]) Try.func68 rfl rfl ?_
  repeat' (first | refine R.seq ?_ | refine R.skip ?_ | refine R.inBlock ?_ | refine R.block ?_ | refine R.condT rfl ?_ | refine R.condF rfl ?_ | refine R.exit rfl ?_ | refine R.label ?_ | (refine R.region (id := 0) ?_; all_goals (refine RO.q0 rfl (QOk.assign rfl) rfl ?_); all_goals refine RO.nil ?_) | (refine R.region (id := 1) ?_; all_goals (refine RO.q0 rfl (QOk.assign rfl) rfl ?_); all_goals refine RO.nil ?_) | (refine R.region (id := 2) ?_; all_goals (refine RO.q0 rfl (QOk.assign rfl) rfl ?_); all_goals refine RO.nil ?_))
  refine R.nilSl 26 4 ?_
  refine R.sub (e' := [(4, .int .i64 0), (3, .slice none 0 0), (0, .slice a n c)]) (by repeat (first | exact Sub.nil | refine Sub.cons rfl ?_)) ?_
  refine R.loop (fun k e own gx => Le g gx ∧ ∃ (j : Nat) (iv : Int) (ao : Option Addr) (co : Nat) (ys : List (List DV)) (ya : Option Addr), iv = j ∧ j + k = n ∧ ys.length = j ∧ shLL ys = shLL (es.take j) ∧ (∀ y ∈ ys, RpL gx y) ∧ own = [sl 26 4 ao j co (ys.map vals)] ∧
    e = [(4, .int .i64 iv), (3, .slice ao j co), (0, .slice a n c)]) ?_ n ⟨Le.refl _, 0, 0, none, 0, [], none, rfl, by omega, rfl, rfl, by simp, rfl, rfl⟩
  rintro k e own gx ⟨hle0, j, _, ao, co, ys, _, rfl, hjk, hjl, hys, hyr, rfl, rfl⟩ ih
  have hs := hs.mono hle0
  rcases Nat.eq_zero_or_pos k with rfl | hk
  · obtain rfl : j = n := by omega
    rw [List.take_of_length_le (by omega)] at hys
    repeat' (first | refine R.seq ?_ | refine R.skip ?_ | refine R.inBlock ?_ | refine R.block ?_ | refine R.condT rfl ?_ | refine R.condF rfl ?_ | refine R.exit rfl ?_ | refine R.label ?_ | (refine R.region (id := 3) ?_; all_goals (refine RO.q0 rfl (QOk.move rfl) rfl ?_); all_goals (refine RO.q0 rfl (QOk.move rfl) rfl ?_); all_goals (first | refine RO.q0 rfl (QOk.lenSlice rfl) rfl ?_ | refine RO.q0 rfl (QOk.lenStr rfl) rfl ?_ | refine RO.q0 rfl (QOk.lenArr rfl) rfl ?_); all_goals (first | refine RO.q0 rfl (QOk.cmpT rfl rfl rfl (by first | decide | omega)) rfl ?_ | refine RO.q0 rfl (QOk.cmpF rfl rfl rfl (by first | decide | omega)) rfl ?_ | refine RO.q0 rfl (QOk.strCmp rfl rfl rfl (by first | assumption | rfl)) rfl ?_ | refine RO.q0 rfl (QOk.boolEq rfl rfl) rfl ?_ | refine RO.q0 rfl (QOk.boolNe rfl rfl) rfl ?_ | refine RO.q0 rfl (QOk.sliceNil rfl rfl rfl) rfl ?_ | refine RO.q0 rfl (QOk.sliceNotNil rfl rfl rfl) rfl ?_ | refine RO.q0 rfl (QOk.eqIT rfl rfl rfl (by first | decide | assumption | (simp only [List.cons.injEq]; omega))) rfl ?_ | refine RO.q0 rfl (QOk.eqIF rfl rfl rfl (by first | decide | assumption | (simp only [List.cons.injEq]; omega))) rfl ?_ | refine RO.cmpS rfl rfl rfl rfl (fun h => ?_) (fun h => ?_)); all_goals refine RO.nil ?_) | (refine R.region (id := 7) ?_; all_goals (refine RO.q0 rfl (QOk.move rfl) rfl ?_); all_goals (refine RO.q0 rfl (QOk.assign rfl) rfl ?_); all_goals refine RO.nil ?_))
    refine R.freezeSlT (T := 26) (sz := 4) ao fun g2 hle2 hsl => ?_
    exact R.ret0 Try.func68 rfl (.tmp rfl .nil) fun _ => ⟨rfl, ao, j, co, ys, rfl, hys, .sl hsl (by omega) fun y hy d hd => (hyr y hy d hd).mono hle2⟩
  · have hil : j < es.length := by omega
    obtain ⟨b3, o3, rfl, hm3⟩ := hs.at_ j (vals es[j]) (by simp [hil])
    have hE := IH _ (List.getElem_mem hil) gx fun d hd => (hq _ (List.getElem_mem hil) d hd).mono hle0
    have htk := fun y => shLL_take (y := y) hys hil
    obtain ⟨⟨o, nm, ts, fs⟩, hsh⟩ : ∃ t, shL es[j] = encF t := by
      obtain ⟨t, _, ht⟩ := shLL_mem hl (List.getElem_mem hil)
      exact ⟨t, ht⟩
    generalize es[j] = x at *
    have hsh3 := hsh
    rw [← List.append_nil (encF _)] at hsh3
    obtain ⟨Q, xa, xn, xc, xe, Q2, za, zn, zc, ze, zz, hxe, _, _, hz⟩   := invF hsh3
    obtain rfl := shL_nil hz
    subst hxe
    have hm3 : Mem gx b3 (o3 + j * 4) [.int .u8 o, .string nm, .slice xa xn xc, .slice za zn zc] := hm3
    have hE : ∀ F, Fc Try.prog 51 #[.agg #[.int .u8 o, .string nm, .slice xa xn xc, .slice za zn zc]] [] F gx (fun v own' g' => CpRes [.at (.int .u8 o), .at (.string nm), .sl Q 3 xa xn xc xe, .sl Q2 4 za zn zc ze] v own' g') := hE
    repeat' (first | refine R.seq ?_ | refine R.skip ?_ | refine R.inBlock ?_ | refine R.block ?_ | refine R.condT rfl ?_ | refine R.condF rfl ?_ | refine R.exit rfl ?_ | refine R.label ?_ | (refine R.region (id := 3) ?_; all_goals (refine RO.q0 rfl (QOk.move rfl) rfl ?_); all_goals (refine RO.q0 rfl (QOk.move rfl) rfl ?_); all_goals (first | refine RO.q0 rfl (QOk.lenSlice rfl) rfl ?_ | refine RO.q0 rfl (QOk.lenStr rfl) rfl ?_ | refine RO.q0 rfl (QOk.lenArr rfl) rfl ?_); all_goals (first | refine RO.q0 rfl (QOk.cmpT rfl rfl rfl (by first | decide | omega)) rfl ?_ | refine RO.q0 rfl (QOk.cmpF rfl rfl rfl (by first | decide | omega)) rfl ?_ | refine RO.q0 rfl (QOk.strCmp rfl rfl rfl (by first | assumption | rfl)) rfl ?_ | refine RO.q0 rfl (QOk.boolEq rfl rfl) rfl ?_ | refine RO.q0 rfl (QOk.boolNe rfl rfl) rfl ?_ | refine RO.q0 rfl (QOk.sliceNil rfl rfl rfl) rfl ?_ | refine RO.q0 rfl (QOk.sliceNotNil rfl rfl rfl) rfl ?_ | refine RO.q0 rfl (QOk.eqIT rfl rfl rfl (by first | decide | assumption | (simp only [List.cons.injEq]; omega))) rfl ?_ | refine RO.q0 rfl (QOk.eqIF rfl rfl rfl (by first | decide | assumption | (simp only [List.cons.injEq]; omega))) rfl ?_ | refine RO.cmpS rfl rfl rfl rfl (fun h => ?_) (fun h => ?_)); all_goals refine RO.nil ?_) | (refine R.region (id := 5) ?_; all_goals (refine RO.q0 rfl (QOk.move rfl) rfl ?_); all_goals (refine RO.q0 rfl (QOk.move rfl) rfl ?_); all_goals (first | refine RO.q0 rfl (QOk.indexAddrC rfl rfl rfl) rfl ?_ | refine RO.q0 rfl (QOk.indexAddrAC rfl rfl rfl) rfl ?_ | refine RO.q0 rfl (QOk.indexAddr rfl rfl (by omega)) rfl ?_ | refine RO.q0 rfl (QOk.indexAddrA rfl rfl (by omega)) rfl ?_); all_goals (first | refine RO.ld rfl rfl ?_ | refine RO.ldA rfl rfl ?_ | refine RO.ldL rfl rfl (by assumption) ?_ | refine RO.ldLA rfl rfl (by assumption) (by first | rfl | assumption) ?_ | refine RO.ldLW rfl rfl (by assumption) ?_ | refine RO.q0 rfl (QOk.ldM rfl (by assumption)) rfl ?_ | refine RO.q0 rfl (QOk.ldMA rfl (by assumption) (by first | rfl | assumption)) rfl ?_ | refine RO.q0 rfl (QOk.ldMW rfl (by assumption)) rfl ?_ | refine RO.q0 rfl (QOk.ldMWA rfl (by assumption)) rfl ?_ | refine RO.q0 rfl (QOk.ldM0 rfl (by assumption)) rfl ?_ | refine RO.q0 rfl (QOk.ldM0A rfl (by assumption)) rfl ?_ | refine RO.q0 rfl (QOk.loadMem0 rfl (by assumption)) rfl ?_); all_goals (first | refine RO.ef rfl (c_copyFm rfl hshF (fun F => hEF F) (fun g2 U va vn vc ve V wa wn wc we hle hy hry => have hrp := hrp.mono hle; have hrm := hrm.mono hle; ?_)) | refine RO.ef rfl (c_copyFm rfl hsh (fun F => hE F) (fun g2 U va vn vc ve V wa wn wc we hle hy hry => ?_))); all_goals (refine RO.ef rfl (OpOk.alloc (fun b => ?_))); all_goals (first | refine RO.ef0 (OpOk.store rfl rfl rfl ?_) | refine RO.ef0 (OpOk.storeL rfl rfl rfl (by assumption) ?_)); all_goals refine RO.nil ?_) | (refine R.region (id := 6) ?_; all_goals (refine RO.q0 rfl (QOk.move rfl) rfl ?_); all_goals (first | refine RO.ld rfl rfl ?_ | refine RO.ldA rfl rfl ?_ | refine RO.ldL rfl rfl (by assumption) ?_ | refine RO.ldLA rfl rfl (by assumption) (by first | rfl | assumption) ?_ | refine RO.ldLW rfl rfl (by assumption) ?_ | refine RO.q0 rfl (QOk.ldM rfl (by assumption)) rfl ?_ | refine RO.q0 rfl (QOk.ldMA rfl (by assumption) (by first | rfl | assumption)) rfl ?_ | refine RO.q0 rfl (QOk.ldMW rfl (by assumption)) rfl ?_ | refine RO.q0 rfl (QOk.ldMWA rfl (by assumption)) rfl ?_ | refine RO.q0 rfl (QOk.ldM0 rfl (by assumption)) rfl ?_ | refine RO.q0 rfl (QOk.ldM0A rfl (by assumption)) rfl ?_ | refine RO.q0 rfl (QOk.loadMem0 rfl (by assumption)) rfl ?_); all_goals (refine RO.ef rfl (OpOk.buildSlice rfl rfl (fun b => ?_))); all_goals (first | refine RO.ef rfl (OpOk.append1 rfl rfl rfl rfl (by omega) (by simp only [maxLen]; omega) (fun a cap => ?_)) | refine RO.ef rfl (OpOk.appendE rfl rfl (by assumption) (by assumption) rfl (by omega) (by simp only [maxLen]; omega) (fun a cap => ?_)) | refine RO.ef rfl (OpOk.appendG rfl rfl hsl.src hone rfl (by omega) (by simp only [maxLen]; omega) (fun a cap => ?_))); all_goals (refine RO.q0 rfl (QOk.assign rfl) rfl ?_); all_goals refine RO.nil ?_) | (refine R.region (id := 4) ?_; all_goals (refine RO.q0 rfl (QOk.move rfl) rfl ?_); all_goals (first | refine RO.q0 rfl (QOk.arith rfl rfl rfl (w64 (by omega))) rfl ?_ | refine RO.q0 rfl (QOk.arith rfl rfl rfl (wu8 (by omega))) rfl ?_ | refine RO.q0 rfl (QOk.arith rfl rfl rfl (wu16 (by omega))) rfl ?_ | refine RO.q0 rfl (QOk.arith rfl rfl rfl (wu32 (by omega))) rfl ?_ | refine RO.q0 rfl (QOk.arith rfl rfl rfl (wu64 (by omega))) rfl ?_ | refine RO.q0 rfl (QOk.strAdd rfl rfl) rfl ?_); all_goals (refine RO.q0 rfl (QOk.assign rfl) rfl ?_); all_goals refine RO.nil ?_))
    all_goals
      refine R.pick (A := [sl 26 4 _ (j + 1) _ _]) (by repeat (first | exact Pick.nil | apply Pick.cons (by (repeat (first | exact .here | apply Take.there)); (first | done | fail)))) ?_
      refine R.sub (e' := [(4, .int .i64 _), (3, .slice _ (j + 1) _), (0, .slice _ n c)]) (by repeat (first | exact Sub.nil | refine Sub.cons rfl ?_)) ?_
      refine ih (k - 1) _ _ _ (by omega) ⟨hle0.trans hle, j + 1, (j : Int) + 1, _, _, ys ++ [[.at (.int .u8 o), .at (.string nm), .sl U 3 va vn vc ve, .sl V 4 wa wn wc we]], none, by omega, by omega, by simp [hjl], htk _ hy, fun y hm => ?_, by rw [List.map_append]; rfl, rfl⟩
      rcases List.mem_append.1 hm with hm | hm
      · exact (hyr y hm).mono hle
      · obtain rfl := List.mem_singleton.1 hm; exact hry
theorem cpPLoop {a : Option Addr} {n c : Nat} {es : List (List DV)} {l : List Pf} (hl : shLL es = l.map encP) (IH : ∀ x ∈ es, CpOk 27 x) : CpSl 52 30 8 a n c es := by
  intro g hr F
  cases hr with
  | sl hs hn hq =>
  have hnl : n = es.length := by simpa using hs.len
  refine Fc.of_body (args := [_]) Try.func52 rfl rfl ?_
  repeat' (first | refine R.seq ?_ | refine R.skip ?_ | refine R.inBlock ?_ | refine R.block ?_ | refine R.condT rfl ?_ | refine R.condF rfl ?_ | refine R.exit rfl ?_ | refine R.label ?_ | (refine R.region (id := 0) ?_; all_goals (refine RO.q0 rfl (QOk.assign rfl) rfl ?_); all_goals refine RO.nil ?_) | (refine R.region (id := 1) ?_; all_goals (refine RO.q0 rfl (QOk.assign rfl) rfl ?_); all_goals refine RO.nil ?_) | (refine R.region (id := 2) ?_; all_goals (refine RO.q0 rfl (QOk.assign rfl) rfl ?_); all_goals refine RO.nil ?_))
  refine R.nilSl 30 8 ?_
  refine R.sub (e' := [(4, .int .i64 0), (3, .slice none 0 0), (0, .slice a n c)]) (by repeat (first | exact Sub.nil | refine Sub.cons rfl ?_)) ?_
  refine R.loop (fun k e own gx => Le g gx ∧ ∃ (j : Nat) (iv : Int) (ao : Option Addr) (co : Nat) (ys : List (List DV)) (ya : Option Addr), iv = j ∧ j + k = n ∧ ys.length = j ∧ shLL ys = shLL (es.take j) ∧ (∀ y ∈ ys, RpL gx y) ∧ own = [sl 30 8 ao j co (ys.map vals)] ∧
    e = [(4, .int .i64 iv), (3, .slice ao j co), (0, .slice a n c)]) ?_ n ⟨Le.refl _, 0, 0, none, 0, [], none, rfl, by omega, rfl, rfl, by simp, rfl, rfl⟩
  rintro k e own gx ⟨hle0, j, _, ao, co, ys, _, rfl, hjk, hjl, hys, hyr, rfl, rfl⟩ ih
  have hs := hs.mono hle0
  rcases Nat.eq_zero_or_pos k with rfl | hk
  · obtain rfl : j = n := by omega
    rw [List.take_of_length_le (by omega)] at hys
    repeat' (first | refine R.seq ?_ | refine R.skip ?_ | refine R.inBlock ?_ | refine R.block ?_ | refine R.condT rfl ?_ | refine R.condF rfl ?_ | refine R.exit rfl ?_ | refine R.label ?_ | (refine R.region (id := 3) ?_; all_goals (refine RO.q0 rfl (QOk.move rfl) rfl ?_); all_goals (refine RO.q0 rfl (QOk.move rfl) rfl ?_); all_goals (first | refine RO.q0 rfl (QOk.lenSlice rfl) rfl ?_ | refine RO.q0 rfl (QOk.lenStr rfl) rfl ?_ | refine RO.q0 rfl (QOk.lenArr rfl) rfl ?_); all_goals (first | refine RO.q0 rfl (QOk.cmpT rfl rfl rfl (by first | decide | omega)) rfl ?_ | refine RO.q0 rfl (QOk.cmpF rfl rfl rfl (by first | decide | omega)) rfl ?_ | refine RO.q0 rfl (QOk.strCmp rfl rfl rfl (by first | assumption | rfl)) rfl ?_ | refine RO.q0 rfl (QOk.boolEq rfl rfl) rfl ?_ | refine RO.q0 rfl (QOk.boolNe rfl rfl) rfl ?_ | refine RO.q0 rfl (QOk.sliceNil rfl rfl rfl) rfl ?_ | refine RO.q0 rfl (QOk.sliceNotNil rfl rfl rfl) rfl ?_ | refine RO.q0 rfl (QOk.eqIT rfl rfl rfl (by first | decide | assumption | (simp only [List.cons.injEq]; omega))) rfl ?_ | refine RO.q0 rfl (QOk.eqIF rfl rfl rfl (by first | decide | assumption | (simp only [List.cons.injEq]; omega))) rfl ?_ | refine RO.cmpS rfl rfl rfl rfl (fun h => ?_) (fun h => ?_)); all_goals refine RO.nil ?_) | (refine R.region (id := 6) ?_; all_goals (refine RO.q0 rfl (QOk.move rfl) rfl ?_); all_goals (refine RO.q0 rfl (QOk.assign rfl) rfl ?_); all_goals refine RO.nil ?_))
    refine R.freezeSlT (T := 30) (sz := 8) ao fun g2 hle2 hsl => ?_
    exact R.ret0 Try.func52 rfl (.tmp rfl .nil) fun _ => ⟨rfl, ao, j, co, ys, rfl, hys, .sl hsl (by omega) fun y hy d hd => (hyr y hy d hd).mono hle2⟩
  · have hil : j < es.length := by omega
    obtain ⟨b3, o3, rfl, hm3⟩ := hs.at_ j (vals es[j]) (by simp [hil])
    have hE := IH _ (List.getElem_mem hil) gx fun d hd => (hq _ (List.getElem_mem hil) d hd).mono hle0
    have htk := fun y => shLL_take (y := y) hys hil
    obtain ⟨⟨r, ⟨o, nm, ts, fs⟩, lab, ss, ms⟩, hsh⟩ : ∃ t, shL es[j] = encP t := by
      obtain ⟨t, _, ht⟩ := shLL_mem hl (List.getElem_mem hil)
      exact ⟨t, ht⟩
    generalize es[j] = x at *
    obtain ⟨Q, xa, xn, xc, xe, Q2, za, zn, zc, ze, Q3, ra, rn, rc, re, Q4, sa, sn, sc, se, hxe, _⟩ := invP hsh
    subst hxe
    have hm3 : Mem gx b3 (o3 + j * 8) [.string r, .int .u8 o, .string nm, .slice xa xn xc, .slice za zn zc, .int .i64 lab, .slice ra rn rc, .slice sa sn sc] := hm3
    have hE : ∀ F, Fc Try.prog 27 #[.agg #[.string r, .int .u8 o, .string nm, .slice xa xn xc, .slice za zn zc, .int .i64 lab, .slice ra rn rc, .slice sa sn sc]] [] F gx (fun v own' g' => CpRes [.at (.string r), .at (.int .u8 o), .at (.string nm), .sl Q 3 xa xn xc xe, .sl Q2 4 za zn zc ze, .at (.int .i64 lab), .sl Q3 8 ra rn rc re, .sl Q4 1 sa sn sc se] v own' g') := hE
    repeat' (first | refine R.seq ?_ | refine R.skip ?_ | refine R.inBlock ?_ | refine R.block ?_ | refine R.condT rfl ?_ | refine R.condF rfl ?_ | refine R.exit rfl ?_ | refine R.label ?_ | (refine R.region (id := 3) ?_; all_goals (refine RO.q0 rfl (QOk.move rfl) rfl ?_); all_goals (refine RO.q0 rfl (QOk.move rfl) rfl ?_); all_goals (first | refine RO.q0 rfl (QOk.lenSlice rfl) rfl ?_ | refine RO.q0 rfl (QOk.lenStr rfl) rfl ?_ | refine RO.q0 rfl (QOk.lenArr rfl) rfl ?_); all_goals (first | refine RO.q0 rfl (QOk.cmpT rfl rfl rfl (by first | decide | omega)) rfl ?_ | refine RO.q0 rfl (QOk.cmpF rfl rfl rfl (by first | decide | omega)) rfl ?_ | refine RO.q0 rfl (QOk.strCmp rfl rfl rfl (by first | assumption | rfl)) rfl ?_ | refine RO.q0 rfl (QOk.boolEq rfl rfl) rfl ?_ | refine RO.q0 rfl (QOk.boolNe rfl rfl) rfl ?_ | refine RO.q0 rfl (QOk.sliceNil rfl rfl rfl) rfl ?_ | refine RO.q0 rfl (QOk.sliceNotNil rfl rfl rfl) rfl ?_ | refine RO.q0 rfl (QOk.eqIT rfl rfl rfl (by first | decide | assumption | (simp only [List.cons.injEq]; omega))) rfl ?_ | refine RO.q0 rfl (QOk.eqIF rfl rfl rfl (by first | decide | assumption | (simp only [List.cons.injEq]; omega))) rfl ?_ | refine RO.cmpS rfl rfl rfl rfl (fun h => ?_) (fun h => ?_)); all_goals refine RO.nil ?_) | (refine R.region (id := 5) ?_; all_goals (refine RO.q0 rfl (QOk.move rfl) rfl ?_); all_goals (refine RO.q0 rfl (QOk.move rfl) rfl ?_); all_goals (refine RO.q0 rfl (QOk.move rfl) rfl ?_); all_goals (first | refine RO.q0 rfl (QOk.indexAddrC rfl rfl rfl) rfl ?_ | refine RO.q0 rfl (QOk.indexAddrAC rfl rfl rfl) rfl ?_ | refine RO.q0 rfl (QOk.indexAddr rfl rfl (by omega)) rfl ?_ | refine RO.q0 rfl (QOk.indexAddrA rfl rfl (by omega)) rfl ?_); all_goals (first | refine RO.ld rfl rfl ?_ | refine RO.ldA rfl rfl ?_ | refine RO.ldL rfl rfl (by assumption) ?_ | refine RO.ldLA rfl rfl (by assumption) (by first | rfl | assumption) ?_ | refine RO.ldLW rfl rfl (by assumption) ?_ | refine RO.q0 rfl (QOk.ldM rfl (by assumption)) rfl ?_ | refine RO.q0 rfl (QOk.ldMA rfl (by assumption) (by first | rfl | assumption)) rfl ?_ | refine RO.q0 rfl (QOk.ldMW rfl (by assumption)) rfl ?_ | refine RO.q0 rfl (QOk.ldMWA rfl (by assumption)) rfl ?_ | refine RO.q0 rfl (QOk.ldM0 rfl (by assumption)) rfl ?_ | refine RO.q0 rfl (QOk.ldM0A rfl (by assumption)) rfl ?_ | refine RO.q0 rfl (QOk.loadMem0 rfl (by assumption)) rfl ?_); all_goals (refine RO.ef rfl (c_copyPf rfl hsh (fun F => hE F) (fun g2 U va vn vc ve V wa wn wc we X pa pn pc pe Y qa qn qc qe hle hy hry => ?_))); all_goals (refine RO.ef rfl (OpOk.buildSlice rfl rfl (fun b => ?_))); all_goals (first | refine RO.ef rfl (OpOk.append1 rfl rfl rfl rfl (by omega) (by simp only [maxLen]; omega) (fun a cap => ?_)) | refine RO.ef rfl (OpOk.appendE rfl rfl (by assumption) (by assumption) rfl (by omega) (by simp only [maxLen]; omega) (fun a cap => ?_)) | refine RO.ef rfl (OpOk.appendG rfl rfl hsl.src hone rfl (by omega) (by simp only [maxLen]; omega) (fun a cap => ?_))); all_goals (refine RO.q0 rfl (QOk.assign rfl) rfl ?_); all_goals refine RO.nil ?_) | (refine R.region (id := 4) ?_; all_goals (refine RO.q0 rfl (QOk.move rfl) rfl ?_); all_goals (first | refine RO.q0 rfl (QOk.arith rfl rfl rfl (w64 (by omega))) rfl ?_ | refine RO.q0 rfl (QOk.arith rfl rfl rfl (wu8 (by omega))) rfl ?_ | refine RO.q0 rfl (QOk.arith rfl rfl rfl (wu16 (by omega))) rfl ?_ | refine RO.q0 rfl (QOk.arith rfl rfl rfl (wu32 (by omega))) rfl ?_ | refine RO.q0 rfl (QOk.arith rfl rfl rfl (wu64 (by omega))) rfl ?_ | refine RO.q0 rfl (QOk.strAdd rfl rfl) rfl ?_); all_goals (refine RO.q0 rfl (QOk.assign rfl) rfl ?_); all_goals refine RO.nil ?_))
    all_goals
      refine R.pick (A := [sl 30 8 _ (j + 1) _ _]) (by repeat (first | exact Pick.nil | apply Pick.cons (by (repeat (first | exact .here | apply Take.there)); (first | done | fail)))) ?_
      refine R.sub (e' := [(4, .int .i64 _), (3, .slice _ (j + 1) _), (0, .slice _ n c)]) (by repeat (first | exact Sub.nil | refine Sub.cons rfl ?_)) ?_
      refine ih (k - 1) _ _ _ (by omega) ⟨hle0.trans hle, j + 1, (j : Int) + 1, _, _, ys ++ [[.at (.string r), .at (.int .u8 o), .at (.string nm), .sl U 3 va vn vc ve, .sl V 4 wa wn wc we, .at (.int .i64 lab), .sl X 8 pa pn pc pe, .sl Y 1 qa qn qc qe]], none, by omega, by omega, by simp [hjl], htk _ hy, fun y hm => ?_, by rw [List.map_append]; rfl, rfl⟩
      rcases List.mem_append.1 hm with hm | hm
      · exact (hyr y hm).mono hle
      · obtain rfl := List.mem_singleton.1 hm; exact hry
theorem cpMLoop {a : Option Addr} {n c : Nat} {es : List (List DV)} {l : List (List Int)} (hl : shLL es = encM l) : CpSl 53 37 1 a n c es := by
  intro g hr F
  cases hr with
  | sl hs hn hq =>
  have hnl : n = es.length := by simpa using hs.len
  refine Fc.of_body (args := [_]) Try.func53 rfl rfl ?_
  repeat' (first | refine R.seq ?_ | refine R.skip ?_ | refine R.inBlock ?_ | refine R.block ?_ | refine R.condT rfl ?_ | refine R.condF rfl ?_ | refine R.exit rfl ?_ | refine R.label ?_ | (refine R.region (id := 0) ?_; all_goals (refine RO.q0 rfl (QOk.assign rfl) rfl ?_); all_goals refine RO.nil ?_) | (refine R.region (id := 1) ?_; all_goals (refine RO.q0 rfl (QOk.assign rfl) rfl ?_); all_goals refine RO.nil ?_) | (refine R.region (id := 2) ?_; all_goals (refine RO.q0 rfl (QOk.assign rfl) rfl ?_); all_goals refine RO.nil ?_))
  refine R.nilSl 37 1 ?_
  refine R.sub (e' := [(4, .int .i64 0), (3, .slice none 0 0), (0, .slice a n c)]) (by repeat (first | exact Sub.nil | refine Sub.cons rfl ?_)) ?_
  refine R.loop (fun k e own gx => Le g gx ∧ ∃ (j : Nat) (iv : Int) (ao : Option Addr) (co : Nat) (ys : List (List DV)) (ya : Option Addr), iv = j ∧ j + k = n ∧ ys.length = j ∧ shLL ys = shLL (es.take j) ∧ (∀ y ∈ ys, RpL gx y) ∧ own = [sl 37 1 ao j co (ys.map vals)] ∧
    e = [(4, .int .i64 iv), (3, .slice ao j co), (0, .slice a n c)]) ?_ n ⟨Le.refl _, 0, 0, none, 0, [], none, rfl, by omega, rfl, rfl, by simp, rfl, rfl⟩
  rintro k e own gx ⟨hle0, j, _, ao, co, ys, _, rfl, hjk, hjl, hys, hyr, rfl, rfl⟩ ih
  have hs := hs.mono hle0
  rcases Nat.eq_zero_or_pos k with rfl | hk
  · obtain rfl : j = n := by omega
    rw [List.take_of_length_le (by omega)] at hys
    repeat' (first | refine R.seq ?_ | refine R.skip ?_ | refine R.inBlock ?_ | refine R.block ?_ | refine R.condT rfl ?_ | refine R.condF rfl ?_ | refine R.exit rfl ?_ | refine R.label ?_ | (refine R.region (id := 3) ?_; all_goals (refine RO.q0 rfl (QOk.move rfl) rfl ?_); all_goals (refine RO.q0 rfl (QOk.move rfl) rfl ?_); all_goals (first | refine RO.q0 rfl (QOk.lenSlice rfl) rfl ?_ | refine RO.q0 rfl (QOk.lenStr rfl) rfl ?_ | refine RO.q0 rfl (QOk.lenArr rfl) rfl ?_); all_goals (first | refine RO.q0 rfl (QOk.cmpT rfl rfl rfl (by first | decide | omega)) rfl ?_ | refine RO.q0 rfl (QOk.cmpF rfl rfl rfl (by first | decide | omega)) rfl ?_ | refine RO.q0 rfl (QOk.strCmp rfl rfl rfl (by first | assumption | rfl)) rfl ?_ | refine RO.q0 rfl (QOk.boolEq rfl rfl) rfl ?_ | refine RO.q0 rfl (QOk.boolNe rfl rfl) rfl ?_ | refine RO.q0 rfl (QOk.sliceNil rfl rfl rfl) rfl ?_ | refine RO.q0 rfl (QOk.sliceNotNil rfl rfl rfl) rfl ?_ | refine RO.q0 rfl (QOk.eqIT rfl rfl rfl (by first | decide | assumption | (simp only [List.cons.injEq]; omega))) rfl ?_ | refine RO.q0 rfl (QOk.eqIF rfl rfl rfl (by first | decide | assumption | (simp only [List.cons.injEq]; omega))) rfl ?_ | refine RO.cmpS rfl rfl rfl rfl (fun h => ?_) (fun h => ?_)); all_goals refine RO.nil ?_) | (refine R.region (id := 6) ?_; all_goals (refine RO.q0 rfl (QOk.move rfl) rfl ?_); all_goals (refine RO.q0 rfl (QOk.assign rfl) rfl ?_); all_goals refine RO.nil ?_))
    refine R.freezeSlT (T := 37) (sz := 1) ao fun g2 hle2 hsl => ?_
    exact R.ret0 Try.func53 rfl (.tmp rfl .nil) fun _ => ⟨rfl, ao, j, co, ys, rfl, hys, .sl hsl (by omega) fun y hy d hd => (hyr y hy d hd).mono hle2⟩
  · have hil : j < es.length := by omega
    obtain ⟨b3, o3, rfl, hm3⟩ := hs.at_ j (vals es[j]) (by simp [hil])
    have hE0 := fun d hd => (hq _ (List.getElem_mem hil) d hd).mono hle0
    have htk := fun y => shLL_take (y := y) hys hil
    obtain ⟨li, hsh⟩ : ∃ t, shL es[j] = [slD 1 (encI t)] := by
      obtain ⟨t, _, ht⟩ := shLL_mem hl (List.getElem_mem hil)
      exact ⟨t, ht⟩
    generalize es[j] = x at *
    obtain ⟨d1, z1, hxe, e1, n1⟩ := shL_cons hsh
    obtain rfl := shL_nil n1
    obtain ⟨Q, xa, xn, xc, xe, rfl, f1, _⟩ := sh_sl e1
    obtain rfl := encI_inv f1
    subst hxe
    have hm3 : Mem gx b3 (o3 + j * 1) [.slice xa xn xc] := hm3
    have hE := fun F => cpInts_ok F gx (hE0 _ (List.mem_singleton.2 rfl))
    repeat' (first | refine R.seq ?_ | refine R.skip ?_ | refine R.inBlock ?_ | refine R.block ?_ | refine R.condT rfl ?_ | refine R.condF rfl ?_ | refine R.exit rfl ?_ | refine R.label ?_ | (refine R.region (id := 3) ?_; all_goals (refine RO.q0 rfl (QOk.move rfl) rfl ?_); all_goals (refine RO.q0 rfl (QOk.move rfl) rfl ?_); all_goals (first | refine RO.q0 rfl (QOk.lenSlice rfl) rfl ?_ | refine RO.q0 rfl (QOk.lenStr rfl) rfl ?_ | refine RO.q0 rfl (QOk.lenArr rfl) rfl ?_); all_goals (first | refine RO.q0 rfl (QOk.cmpT rfl rfl rfl (by first | decide | omega)) rfl ?_ | refine RO.q0 rfl (QOk.cmpF rfl rfl rfl (by first | decide | omega)) rfl ?_ | refine RO.q0 rfl (QOk.strCmp rfl rfl rfl (by first | assumption | rfl)) rfl ?_ | refine RO.q0 rfl (QOk.boolEq rfl rfl) rfl ?_ | refine RO.q0 rfl (QOk.boolNe rfl rfl) rfl ?_ | refine RO.q0 rfl (QOk.sliceNil rfl rfl rfl) rfl ?_ | refine RO.q0 rfl (QOk.sliceNotNil rfl rfl rfl) rfl ?_ | refine RO.q0 rfl (QOk.eqIT rfl rfl rfl (by first | decide | assumption | (simp only [List.cons.injEq]; omega))) rfl ?_ | refine RO.q0 rfl (QOk.eqIF rfl rfl rfl (by first | decide | assumption | (simp only [List.cons.injEq]; omega))) rfl ?_ | refine RO.cmpS rfl rfl rfl rfl (fun h => ?_) (fun h => ?_)); all_goals refine RO.nil ?_) | (refine R.region (id := 5) ?_; all_goals (refine RO.q0 rfl (QOk.move rfl) rfl ?_); all_goals (refine RO.q0 rfl (QOk.move rfl) rfl ?_); all_goals (refine RO.q0 rfl (QOk.move rfl) rfl ?_); all_goals (first | refine RO.q0 rfl (QOk.indexAddrC rfl rfl rfl) rfl ?_ | refine RO.q0 rfl (QOk.indexAddrAC rfl rfl rfl) rfl ?_ | refine RO.q0 rfl (QOk.indexAddr rfl rfl (by omega)) rfl ?_ | refine RO.q0 rfl (QOk.indexAddrA rfl rfl (by omega)) rfl ?_); all_goals (first | refine RO.ld rfl rfl ?_ | refine RO.ldA rfl rfl ?_ | refine RO.ldL rfl rfl (by assumption) ?_ | refine RO.ldLA rfl rfl (by assumption) (by first | rfl | assumption) ?_ | refine RO.ldLW rfl rfl (by assumption) ?_ | refine RO.q0 rfl (QOk.ldM rfl (by assumption)) rfl ?_ | refine RO.q0 rfl (QOk.ldMA rfl (by assumption) (by first | rfl | assumption)) rfl ?_ | refine RO.q0 rfl (QOk.ldMW rfl (by assumption)) rfl ?_ | refine RO.q0 rfl (QOk.ldMWA rfl (by assumption)) rfl ?_ | refine RO.q0 rfl (QOk.ldM0 rfl (by assumption)) rfl ?_ | refine RO.q0 rfl (QOk.ldM0A rfl (by assumption)) rfl ?_ | refine RO.q0 rfl (QOk.loadMem0 rfl (by assumption)) rfl ?_); all_goals (refine RO.ef rfl (c_copyS rfl (fun F => hE F) (fun g2 va vn vc ve hle hy hry => ?_))); all_goals (refine RO.ef rfl (OpOk.buildSlice rfl rfl (fun b => ?_))); all_goals (first | refine RO.ef rfl (OpOk.append1 rfl rfl rfl rfl (by omega) (by simp only [maxLen]; omega) (fun a cap => ?_)) | refine RO.ef rfl (OpOk.appendE rfl rfl (by assumption) (by assumption) rfl (by omega) (by simp only [maxLen]; omega) (fun a cap => ?_)) | refine RO.ef rfl (OpOk.appendG rfl rfl hsl.src hone rfl (by omega) (by simp only [maxLen]; omega) (fun a cap => ?_))); all_goals (refine RO.q0 rfl (QOk.assign rfl) rfl ?_); all_goals refine RO.nil ?_) | (refine R.region (id := 4) ?_; all_goals (refine RO.q0 rfl (QOk.move rfl) rfl ?_); all_goals (first | refine RO.q0 rfl (QOk.arith rfl rfl rfl (w64 (by omega))) rfl ?_ | refine RO.q0 rfl (QOk.arith rfl rfl rfl (wu8 (by omega))) rfl ?_ | refine RO.q0 rfl (QOk.arith rfl rfl rfl (wu16 (by omega))) rfl ?_ | refine RO.q0 rfl (QOk.arith rfl rfl rfl (wu32 (by omega))) rfl ?_ | refine RO.q0 rfl (QOk.arith rfl rfl rfl (wu64 (by omega))) rfl ?_ | refine RO.q0 rfl (QOk.strAdd rfl rfl) rfl ?_); all_goals (refine RO.q0 rfl (QOk.assign rfl) rfl ?_); all_goals refine RO.nil ?_))
    all_goals
      refine R.pick (A := [sl 37 1 _ (j + 1) _ _]) (by repeat (first | exact Pick.nil | apply Pick.cons (by (repeat (first | exact .here | apply Take.there)); (first | done | fail)))) ?_
      refine R.sub (e' := [(4, .int .i64 _), (3, .slice _ (j + 1) _), (0, .slice _ n c)]) (by repeat (first | exact Sub.nil | refine Sub.cons rfl ?_)) ?_
      refine ih (k - 1) _ _ _ (by omega) ⟨hle0.trans hle, j + 1, (j : Int) + 1, _, _, ys ++ [[.sl 3 1 va vn vc ve]], none, by omega, by omega, by simp [hjl], htk _ (shL_congr (sh_sl_congr hy) rfl), fun y hm => ?_, by rw [List.map_append]; rfl, rfl⟩
      rcases List.mem_append.1 hm with hm | hm
      · exact (hyr y hm).mono hle
      · obtain rfl := List.mem_singleton.1 hm
        intro d hd
        obtain rfl := List.mem_singleton.1 hd
        exact hry
theorem CpOk.of {f : Nat} {x : List DV} {cs : List Value} (hc : vals x = cs) (h : ∀ (g : Img), RpL g x → ∀ F, Fc Try.prog f #[.agg cs.toArray] [] F g (fun v own' g' => CpRes x v own' g')) : CpOk f x := by
  subst hc; exact h
theorem cpT_ok (t : Tm) (x : List DV) (h : shL x = encT t) : CpOk 77 x := by
  match t, h with
  | .mk v nm ts, h =>
    obtain ⟨T, a, n, c, es, rfl, hes⟩ := invT h
    have hL := cpTLoop (a := a) (n := n) (c := c) hes fun y hy => by
      obtain ⟨t', ht', he⟩ := shLL_mem hes hy
      exact cpT_ok t' y he
    refine CpOk.of (cs := [.bool v, .string nm, .slice a n c]) rfl fun g hr F => ?_
    have hrs := rpTag (T' := 102) (hr (.sl T 3 a n c es) (by simp))
    have hT := hL g hrs
    refine Fc.of_body (args := [_]) Try.func77 rfl rfl ?_
    repeat' (first | refine R.seq ?_ | refine R.skip ?_ | refine R.inBlock ?_ | refine R.block ?_ | refine R.condT rfl ?_ | refine R.condF rfl ?_ | refine R.exit rfl ?_ | refine R.label ?_ | (refine R.region (id := 0) ?_; all_goals (refine RO.ef rfl (OpOk.box rfl (fun b => ?_))); all_goals (refine RO.ef rfl (OpOk.alloc (fun b => ?_))); all_goals refine RO.nil ?_) | (refine R.region (id := 1) ?_; all_goals (first | refine RO.q0 rfl (QOk.fieldAddr0 rfl rfl) rfl ?_ | refine RO.q0 rfl (QOk.fieldAddrZ rfl rfl) rfl ?_ | refine RO.q0 rfl (QOk.fieldAddr rfl rfl) rfl ?_); all_goals (first | refine RO.ld rfl rfl ?_ | refine RO.ldA rfl rfl ?_ | refine RO.ldL rfl rfl (by assumption) ?_ | refine RO.ldLA rfl rfl (by assumption) (by first | rfl | assumption) ?_ | refine RO.ldLW rfl rfl (by assumption) ?_ | refine RO.q0 rfl (QOk.ldM rfl (by assumption)) rfl ?_ | refine RO.q0 rfl (QOk.ldMA rfl (by assumption) (by first | rfl | assumption)) rfl ?_ | refine RO.q0 rfl (QOk.ldMW rfl (by assumption)) rfl ?_ | refine RO.q0 rfl (QOk.ldMWA rfl (by assumption)) rfl ?_ | refine RO.q0 rfl (QOk.ldM0 rfl (by assumption)) rfl ?_ | refine RO.q0 rfl (QOk.ldM0A rfl (by assumption)) rfl ?_ | refine RO.q0 rfl (QOk.loadMem0 rfl (by assumption)) rfl ?_); all_goals (refine RO.ef rfl (c_copyS rfl (fun F => hT F) (fun g3 ta tn tc te hle3 hts htr => have hrs := hrs.mono hle3; ?_))); all_goals (first | refine RO.q0 rfl (QOk.fieldAddr0 rfl rfl) rfl ?_ | refine RO.q0 rfl (QOk.fieldAddrZ rfl rfl) rfl ?_ | refine RO.q0 rfl (QOk.fieldAddr rfl rfl) rfl ?_); all_goals (first | refine RO.ef0 (OpOk.store rfl rfl rfl ?_) | refine RO.ef0 (OpOk.storeL rfl rfl rfl (by assumption) ?_)); all_goals refine RO.nil ?_) | (refine R.region (id := 2) ?_; all_goals (first | refine RO.ld rfl rfl ?_ | refine RO.ldA rfl rfl ?_ | refine RO.ldL rfl rfl (by assumption) ?_ | refine RO.ldLA rfl rfl (by assumption) (by first | rfl | assumption) ?_ | refine RO.ldLW rfl rfl (by assumption) ?_ | refine RO.q0 rfl (QOk.ldM rfl (by assumption)) rfl ?_ | refine RO.q0 rfl (QOk.ldMA rfl (by assumption) (by first | rfl | assumption)) rfl ?_ | refine RO.q0 rfl (QOk.ldMW rfl (by assumption)) rfl ?_ | refine RO.q0 rfl (QOk.ldMWA rfl (by assumption)) rfl ?_ | refine RO.q0 rfl (QOk.ldM0 rfl (by assumption)) rfl ?_ | refine RO.q0 rfl (QOk.ldM0A rfl (by assumption)) rfl ?_ | refine RO.q0 rfl (QOk.loadMem0 rfl (by assumption)) rfl ?_); all_goals (first | refine RO.ef0 (OpOk.store rfl rfl rfl ?_) | refine RO.ef0 (OpOk.storeL rfl rfl rfl (by assumption) ?_)); all_goals refine RO.nil ?_))
    refine R.retK Try.func77 rfl (.cA rfl .nil) .nil fun _ => ⟨rfl, [.at (.bool v), .at (.string nm), .sl 102 3 ta tn tc te], rfl, shL_congr rfl (shL_congr rfl (shL_congr (sh_sl_congr hts) rfl)), fun d hd => ?_⟩
    simp only [List.mem_cons, List.not_mem_nil, or_false] at hd
    rcases hd with rfl | rfl | rfl
    · exact .at _ rfl
    · exact .at _ rfl
    · exact htr
termination_by SizeOf.sizeOf t
decreasing_by
  have := List.sizeOf_lt_of_mem ht'
  simp only [Tm.mk.sizeOf_spec]; omega
theorem cpF_ok (t : Fm) (x : List DV) (h : shL x = encF t) : CpOk 51 x := by
  match t, h with
  | .mk o nm ts fs, h =>
    rw [← List.append_nil (encF _)] at h
    obtain ⟨T, a, n, c, es, T2, a', n', c', es', z, rfl, hes, hes', hz⟩ := invF h
    obtain rfl := shL_nil hz
    have hL := cpTLoop (a := a) (n := n) (c := c) hes fun y hy => by
      obtain ⟨t', _, he⟩ := shLL_mem hes hy
      exact cpT_ok t' y he
    have hS := cpFLoop (a := a') (n := n') (c := c') hes' fun y hy => by
      obtain ⟨t', ht', he⟩ := shLL_mem hes' hy
      exact cpF_ok t' y he
    refine CpOk.of (cs := [.int .u8 o, .string nm, .slice a n c, .slice a' n' c']) rfl fun g hr F => ?_
    have hT := hL g (rpTag (T' := 102) (hr (.sl T 3 a n c es) (by simp)))
    have hrs := rpTag (T' := 26) (hr (.sl T2 4 a' n' c' es') (by simp))
    refine Fc.of_body (args := [_]) Try.func51 rfl rfl ?_
    repeat' (first | refine R.seq ?_ | refine R.skip ?_ | refine R.inBlock ?_ | refine R.block ?_ | refine R.condT rfl ?_ | refine R.condF rfl ?_ | refine R.exit rfl ?_ | refine R.label ?_ | (refine R.region (id := 0) ?_; all_goals (refine RO.ef rfl (OpOk.box rfl (fun b => ?_))); all_goals (refine RO.ef rfl (OpOk.alloc (fun b => ?_))); all_goals refine RO.nil ?_) | (refine R.region (id := 1) ?_; all_goals (first | refine RO.q0 rfl (QOk.fieldAddr0 rfl rfl) rfl ?_ | refine RO.q0 rfl (QOk.fieldAddrZ rfl rfl) rfl ?_ | refine RO.q0 rfl (QOk.fieldAddr rfl rfl) rfl ?_); all_goals (first | refine RO.ld rfl rfl ?_ | refine RO.ldA rfl rfl ?_ | refine RO.ldL rfl rfl (by assumption) ?_ | refine RO.ldLA rfl rfl (by assumption) (by first | rfl | assumption) ?_ | refine RO.ldLW rfl rfl (by assumption) ?_ | refine RO.q0 rfl (QOk.ldM rfl (by assumption)) rfl ?_ | refine RO.q0 rfl (QOk.ldMA rfl (by assumption) (by first | rfl | assumption)) rfl ?_ | refine RO.q0 rfl (QOk.ldMW rfl (by assumption)) rfl ?_ | refine RO.q0 rfl (QOk.ldMWA rfl (by assumption)) rfl ?_ | refine RO.q0 rfl (QOk.ldM0 rfl (by assumption)) rfl ?_ | refine RO.q0 rfl (QOk.ldM0A rfl (by assumption)) rfl ?_ | refine RO.q0 rfl (QOk.loadMem0 rfl (by assumption)) rfl ?_); all_goals (refine RO.ef rfl (c_copyS rfl (fun F => hT F) (fun g3 ta tn tc te hle3 hts htr => have hrs := hrs.mono hle3; ?_))); all_goals (first | refine RO.q0 rfl (QOk.fieldAddr0 rfl rfl) rfl ?_ | refine RO.q0 rfl (QOk.fieldAddrZ rfl rfl) rfl ?_ | refine RO.q0 rfl (QOk.fieldAddr rfl rfl) rfl ?_); all_goals (first | refine RO.ef0 (OpOk.store rfl rfl rfl ?_) | refine RO.ef0 (OpOk.storeL rfl rfl rfl (by assumption) ?_)); all_goals refine RO.nil ?_) | (refine R.region (id := 2) ?_; all_goals (first | refine RO.q0 rfl (QOk.fieldAddr0 rfl rfl) rfl ?_ | refine RO.q0 rfl (QOk.fieldAddrZ rfl rfl) rfl ?_ | refine RO.q0 rfl (QOk.fieldAddr rfl rfl) rfl ?_); all_goals (first | refine RO.ld rfl rfl ?_ | refine RO.ldA rfl rfl ?_ | refine RO.ldL rfl rfl (by assumption) ?_ | refine RO.ldLA rfl rfl (by assumption) (by first | rfl | assumption) ?_ | refine RO.ldLW rfl rfl (by assumption) ?_ | refine RO.q0 rfl (QOk.ldM rfl (by assumption)) rfl ?_ | refine RO.q0 rfl (QOk.ldMA rfl (by assumption) (by first | rfl | assumption)) rfl ?_ | refine RO.q0 rfl (QOk.ldMW rfl (by assumption)) rfl ?_ | refine RO.q0 rfl (QOk.ldMWA rfl (by assumption)) rfl ?_ | refine RO.q0 rfl (QOk.ldM0 rfl (by assumption)) rfl ?_ | refine RO.q0 rfl (QOk.ldM0A rfl (by assumption)) rfl ?_ | refine RO.q0 rfl (QOk.loadMem0 rfl (by assumption)) rfl ?_); all_goals (refine RO.ef rfl (c_copyS rfl (fun F => hS _ hrs F) (fun g4 fa fn fc fe hle4 hfs hfr => have htr := htr.mono hle4; ?_))); all_goals (first | refine RO.q0 rfl (QOk.fieldAddr0 rfl rfl) rfl ?_ | refine RO.q0 rfl (QOk.fieldAddrZ rfl rfl) rfl ?_ | refine RO.q0 rfl (QOk.fieldAddr rfl rfl) rfl ?_); all_goals (first | refine RO.ef0 (OpOk.store rfl rfl rfl ?_) | refine RO.ef0 (OpOk.storeL rfl rfl rfl (by assumption) ?_)); all_goals refine RO.nil ?_) | (refine R.region (id := 3) ?_; all_goals (first | refine RO.ld rfl rfl ?_ | refine RO.ldA rfl rfl ?_ | refine RO.ldL rfl rfl (by assumption) ?_ | refine RO.ldLA rfl rfl (by assumption) (by first | rfl | assumption) ?_ | refine RO.ldLW rfl rfl (by assumption) ?_ | refine RO.q0 rfl (QOk.ldM rfl (by assumption)) rfl ?_ | refine RO.q0 rfl (QOk.ldMA rfl (by assumption) (by first | rfl | assumption)) rfl ?_ | refine RO.q0 rfl (QOk.ldMW rfl (by assumption)) rfl ?_ | refine RO.q0 rfl (QOk.ldMWA rfl (by assumption)) rfl ?_ | refine RO.q0 rfl (QOk.ldM0 rfl (by assumption)) rfl ?_ | refine RO.q0 rfl (QOk.ldM0A rfl (by assumption)) rfl ?_ | refine RO.q0 rfl (QOk.loadMem0 rfl (by assumption)) rfl ?_); all_goals (first | refine RO.ef0 (OpOk.store rfl rfl rfl ?_) | refine RO.ef0 (OpOk.storeL rfl rfl rfl (by assumption) ?_)); all_goals refine RO.nil ?_))
    refine R.retK Try.func51 rfl (.cA rfl .nil) .nil fun _ => ⟨rfl, [.at (.int .u8 o), .at (.string nm), .sl 102 3 ta tn tc te, .sl 26 4 fa fn fc fe], rfl, shL_congr rfl (shL_congr rfl (shL_congr (sh_sl_congr hts) (shL_congr (sh_sl_congr hfs) rfl))), fun d hd => ?_⟩
    simp only [List.mem_cons, List.not_mem_nil, or_false] at hd
    rcases hd with rfl | rfl | rfl | rfl
    · exact .at _ rfl
    · exact .at _ rfl
    · exact htr
    · exact hfr
termination_by SizeOf.sizeOf t
decreasing_by
  have := List.sizeOf_lt_of_mem ht'
  simp only [Fm.mk.sizeOf_spec]; omega
theorem cpP_ok (t : Pf) (x : List DV) (h : shL x = encP t) : CpOk 27 x := by
  match t, h with
  | .mk r (.mk o nm ts fs) lab ss ms, h =>
    obtain ⟨T, a, n, c, es, T2, a', n', c', es', Ts, sa, sn, sc, su, TM, ma, mn, mc, mm, rfl, h1, h2, h3, h4⟩ := invP h
    have hshF : shL [.at (.int .u8 o), .at (.string nm), .sl T 3 a n c es, .sl T2 4 a' n' c' es'] = encF (.mk o nm ts fs) := by rw [encF]; exact shL_form h1 h2
    have hF := cpF_ok (.mk o nm ts fs) _ hshF
    have hP := cpPLoop (a := sa) (n := sn) (c := sc) h3 fun y hy => by
      obtain ⟨t', ht', he⟩ := shLL_mem h3 hy
      exact cpP_ok t' y he
    have hM := cpMLoop (a := ma) (n := mn) (c := mc) h4
    refine CpOk.of (cs := [.string r, .int .u8 o, .string nm, .slice a n c, .slice a' n' c', .int .i64 lab, .slice sa sn sc, .slice ma mn mc]) rfl fun g hr F => ?_
    have hEF : ∀ F, Fc Try.prog 51 #[.agg #[.int .u8 o, .string nm, .slice a n c, .slice a' n' c']] [] F g (fun v own' g' => CpRes [.at (.int .u8 o), .at (.string nm), .sl T 3 a n c es, .sl T2 4 a' n' c' es'] v own' g') := hF g fun d hd => hr d (List.mem_cons_of_mem _ (List.mem_append_left _ hd))
    have hrp := rpTag (T' := 30) (hr (.sl Ts 8 sa sn sc su) (by simp))
    have hrm := rpTag (T' := 37) (hr (.sl TM 1 ma mn mc mm) (by simp))
    refine Fc.of_body (args := [_]) Try.func27 rfl rfl ?_
    repeat' (first | refine R.seq ?_ | refine R.skip ?_ | refine R.inBlock ?_ | refine R.block ?_ | refine R.condT rfl ?_ | refine R.condF rfl ?_ | refine R.exit rfl ?_ | refine R.label ?_ | (refine R.region (id := 0) ?_; all_goals (refine RO.ef rfl (OpOk.box rfl (fun b => ?_))); all_goals (refine RO.ef rfl (OpOk.alloc (fun b => ?_))); all_goals refine RO.nil ?_) | (refine R.region (id := 1) ?_; all_goals (first | refine RO.q0 rfl (QOk.fieldAddr0 rfl rfl) rfl ?_ | refine RO.q0 rfl (QOk.fieldAddrZ rfl rfl) rfl ?_ | refine RO.q0 rfl (QOk.fieldAddr rfl rfl) rfl ?_); all_goals (first | refine RO.ld rfl rfl ?_ | refine RO.ldA rfl rfl ?_ | refine RO.ldL rfl rfl (by assumption) ?_ | refine RO.ldLA rfl rfl (by assumption) (by first | rfl | assumption) ?_ | refine RO.ldLW rfl rfl (by assumption) ?_ | refine RO.q0 rfl (QOk.ldM rfl (by assumption)) rfl ?_ | refine RO.q0 rfl (QOk.ldMA rfl (by assumption) (by first | rfl | assumption)) rfl ?_ | refine RO.q0 rfl (QOk.ldMW rfl (by assumption)) rfl ?_ | refine RO.q0 rfl (QOk.ldMWA rfl (by assumption)) rfl ?_ | refine RO.q0 rfl (QOk.ldM0 rfl (by assumption)) rfl ?_ | refine RO.q0 rfl (QOk.ldM0A rfl (by assumption)) rfl ?_ | refine RO.q0 rfl (QOk.loadMem0 rfl (by assumption)) rfl ?_); all_goals (first | refine RO.ef rfl (c_copyFm rfl hshF (fun F => hEF F) (fun g2 U va vn vc ve V wa wn wc we hle hy hry => have hrp := hrp.mono hle; have hrm := hrm.mono hle; ?_)) | refine RO.ef rfl (c_copyFm rfl hsh (fun F => hE F) (fun g2 U va vn vc ve V wa wn wc we hle hy hry => ?_))); all_goals (first | refine RO.q0 rfl (QOk.fieldAddr0 rfl rfl) rfl ?_ | refine RO.q0 rfl (QOk.fieldAddrZ rfl rfl) rfl ?_ | refine RO.q0 rfl (QOk.fieldAddr rfl rfl) rfl ?_); all_goals (first | refine RO.ef0 (OpOk.store rfl rfl rfl ?_) | refine RO.ef0 (OpOk.storeL rfl rfl rfl (by assumption) ?_)); all_goals refine RO.nil ?_) | (refine R.region (id := 2) ?_; all_goals (first | refine RO.q0 rfl (QOk.fieldAddr0 rfl rfl) rfl ?_ | refine RO.q0 rfl (QOk.fieldAddrZ rfl rfl) rfl ?_ | refine RO.q0 rfl (QOk.fieldAddr rfl rfl) rfl ?_); all_goals (first | refine RO.ld rfl rfl ?_ | refine RO.ldA rfl rfl ?_ | refine RO.ldL rfl rfl (by assumption) ?_ | refine RO.ldLA rfl rfl (by assumption) (by first | rfl | assumption) ?_ | refine RO.ldLW rfl rfl (by assumption) ?_ | refine RO.q0 rfl (QOk.ldM rfl (by assumption)) rfl ?_ | refine RO.q0 rfl (QOk.ldMA rfl (by assumption) (by first | rfl | assumption)) rfl ?_ | refine RO.q0 rfl (QOk.ldMW rfl (by assumption)) rfl ?_ | refine RO.q0 rfl (QOk.ldMWA rfl (by assumption)) rfl ?_ | refine RO.q0 rfl (QOk.ldM0 rfl (by assumption)) rfl ?_ | refine RO.q0 rfl (QOk.ldM0A rfl (by assumption)) rfl ?_ | refine RO.q0 rfl (QOk.loadMem0 rfl (by assumption)) rfl ?_); all_goals (refine RO.ef rfl (c_copyS rfl (fun F => hP _ hrp F) (fun g4 pa2 pn2 pc2 pe2 hle4 hps hpr => have hry := hry.mono hle4; have hrm := hrm.mono hle4; ?_))); all_goals (first | refine RO.q0 rfl (QOk.fieldAddr0 rfl rfl) rfl ?_ | refine RO.q0 rfl (QOk.fieldAddrZ rfl rfl) rfl ?_ | refine RO.q0 rfl (QOk.fieldAddr rfl rfl) rfl ?_); all_goals (first | refine RO.ef0 (OpOk.store rfl rfl rfl ?_) | refine RO.ef0 (OpOk.storeL rfl rfl rfl (by assumption) ?_)); all_goals refine RO.nil ?_) | (refine R.region (id := 3) ?_; all_goals (first | refine RO.q0 rfl (QOk.fieldAddr0 rfl rfl) rfl ?_ | refine RO.q0 rfl (QOk.fieldAddrZ rfl rfl) rfl ?_ | refine RO.q0 rfl (QOk.fieldAddr rfl rfl) rfl ?_); all_goals (first | refine RO.ld rfl rfl ?_ | refine RO.ldA rfl rfl ?_ | refine RO.ldL rfl rfl (by assumption) ?_ | refine RO.ldLA rfl rfl (by assumption) (by first | rfl | assumption) ?_ | refine RO.ldLW rfl rfl (by assumption) ?_ | refine RO.q0 rfl (QOk.ldM rfl (by assumption)) rfl ?_ | refine RO.q0 rfl (QOk.ldMA rfl (by assumption) (by first | rfl | assumption)) rfl ?_ | refine RO.q0 rfl (QOk.ldMW rfl (by assumption)) rfl ?_ | refine RO.q0 rfl (QOk.ldMWA rfl (by assumption)) rfl ?_ | refine RO.q0 rfl (QOk.ldM0 rfl (by assumption)) rfl ?_ | refine RO.q0 rfl (QOk.ldM0A rfl (by assumption)) rfl ?_ | refine RO.q0 rfl (QOk.loadMem0 rfl (by assumption)) rfl ?_); all_goals (refine RO.ef rfl (c_copyS rfl (fun F => hM _ hrm F) (fun g5 ma2 mn2 mc2 me2 hle5 hms hmr => have hry := hry.mono hle5; have hpr := hpr.mono hle5; ?_))); all_goals (first | refine RO.q0 rfl (QOk.fieldAddr0 rfl rfl) rfl ?_ | refine RO.q0 rfl (QOk.fieldAddrZ rfl rfl) rfl ?_ | refine RO.q0 rfl (QOk.fieldAddr rfl rfl) rfl ?_); all_goals (first | refine RO.ef0 (OpOk.store rfl rfl rfl ?_) | refine RO.ef0 (OpOk.storeL rfl rfl rfl (by assumption) ?_)); all_goals refine RO.nil ?_) | (refine R.region (id := 4) ?_; all_goals (first | refine RO.ld rfl rfl ?_ | refine RO.ldA rfl rfl ?_ | refine RO.ldL rfl rfl (by assumption) ?_ | refine RO.ldLA rfl rfl (by assumption) (by first | rfl | assumption) ?_ | refine RO.ldLW rfl rfl (by assumption) ?_ | refine RO.q0 rfl (QOk.ldM rfl (by assumption)) rfl ?_ | refine RO.q0 rfl (QOk.ldMA rfl (by assumption) (by first | rfl | assumption)) rfl ?_ | refine RO.q0 rfl (QOk.ldMW rfl (by assumption)) rfl ?_ | refine RO.q0 rfl (QOk.ldMWA rfl (by assumption)) rfl ?_ | refine RO.q0 rfl (QOk.ldM0 rfl (by assumption)) rfl ?_ | refine RO.q0 rfl (QOk.ldM0A rfl (by assumption)) rfl ?_ | refine RO.q0 rfl (QOk.loadMem0 rfl (by assumption)) rfl ?_); all_goals (first | refine RO.ef0 (OpOk.store rfl rfl rfl ?_) | refine RO.ef0 (OpOk.storeL rfl rfl rfl (by assumption) ?_)); all_goals refine RO.nil ?_))
    refine R.retK Try.func27 rfl (.cA rfl .nil) .nil fun _ => ⟨rfl, [.at (.string r), .at (.int .u8 o), .at (.string nm), .sl U 3 va vn vc ve, .sl V 4 wa wn wc we, .at (.int .i64 lab), .sl 30 8 pa2 pn2 pc2 pe2, .sl 37 1 ma2 mn2 mc2 me2], rfl, ?_, fun d hd => ?_⟩
    · refine shL_congr rfl ?_
      have e1 := hy
      simp only [shL_map, List.map_cons, List.map_nil, List.cons.injEq, and_true] at e1 ⊢
      exact ⟨e1.1, e1.2.1, e1.2.2.1, e1.2.2.2, by trivial, sh_sl_congr hps, sh_sl_congr hms⟩
    · simp only [List.mem_cons, List.not_mem_nil, or_false] at hd
      rcases hd with rfl | rfl | rfl | rfl | rfl | rfl | rfl | rfl
      · exact .at _ rfl
      · exact .at _ rfl
      · exact .at _ rfl
      · exact hry _ (by simp)
      · exact hry _ (by simp)
      · exact .at _ rfl
      · exact hpr
      · exact hmr
termination_by SizeOf.sizeOf t
decreasing_by
  have := List.sizeOf_lt_of_mem ht'
  simp only [Pf.mk.sizeOf_spec]; omega
end Go.Proofs.Ytbdnfllpdlbboaa
