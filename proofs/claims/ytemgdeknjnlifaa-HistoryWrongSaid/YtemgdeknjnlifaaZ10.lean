import Derived.Test.YtemgdeknjnlifaaZ9
namespace Go.Proofs.Ytemgdeknjnlifaa
open Go Go.Zed
attribute [local irreducible] R RO RD OpOk QOk
set_option maxRecDepth 10000
set_option maxHeartbeats 4000000
/-- Turned round, the first i and the last i. -/
def Rev (l cur : List Int) (i : Nat) : Prop := cur.length = l.length ∧ ∀ q, q < l.length → cur[q]? = if q < i ∨ l.length - i ≤ q then l[l.length - 1 - q]? else l[q]?
theorem Rev.zero (l : List Int) : Rev l l 0 := ⟨rfl, fun q hq => by rw [if_neg (by omega)]⟩
theorem Rev.done {l cur : List Int} {i : Nat} (h : Rev l cur i) (hi : l.length ≤ 2 * i + 1) : cur = l.reverse := by
  apply List.ext_getElem?
  intro q
  by_cases hq : q < l.length
  · rw [h.2 q hq, List.getElem?_reverse hq]
    by_cases hc : q < i ∨ l.length - i ≤ q
    · rw [if_pos hc]
    · rw [if_neg hc, show l.length - 1 - q = q by omega]
  · rw [List.getElem?_eq_none (by have := h.1; omega), List.getElem?_eq_none (by simp; omega)]
theorem Rev.step {l cur : List Int} {i : Nat} {x y : Int} (h : Rev l cur i) (hi : 2 * i + 1 < l.length) (hx : cur[i]? = some x) (hy : cur[l.length - 1 - i]? = some y) :
    Rev l ((cur.set i y).set (l.length - 1 - i) x) (i + 1) := by
  refine ⟨by simp [h.1], fun q hq => ?_⟩
  have h1 := h.2 i (by omega)
  have h2 := h.2 (l.length - 1 - i) (by omega)
  rw [if_neg (by omega)] at h1 h2
  rw [List.getElem?_set, List.getElem?_set]
  by_cases e1 : l.length - 1 - i = q
  · subst e1
    rw [if_pos rfl, if_pos (by simp; have := h.1; omega), if_pos (by omega), show l.length - 1 - (l.length - 1 - i) = i by omega, ← h1, hx]
  · rw [if_neg e1]
    by_cases e2 : i = q
    · subst e2
      rw [if_pos rfl, if_pos (by have := h.1; omega), if_pos (by omega), ← h2, hy]
    · rw [if_neg e2, h.2 q hq]
      by_cases hc : q < i ∨ l.length - i ≤ q
      · rw [if_pos hc, if_pos (by omega)]
      · rw [if_neg hc, if_neg (by omega)]
theorem ints_at {l : List Int} {i : Nat} {x : Int} (h : l[i]? = some x) : (ints l)[i]? = some [.int .i64 x] := by rw [ints, List.getElem?_map, h]; rfl
theorem ints_set {l : List Int} {i : Nat} {x : Int} : (ints l).set i [.int .i64 x] = ints (l.set i x) := by rw [ints, ints, List.map_set]
theorem reverse_ok (F : Frag) (g : Img) {a : Option Addr} {n cp : Nat} {l : List Int} (hn : l.length ≤ 1000000) :
    Fc Try.prog 43 #[.slice a n cp] [sl 3 1 a n cp (ints l)] F g (fun _ own' _ => own' = [sl 3 1 a n cp (ints l.reverse)]) := by
  refine Fc.of_body (args := [_]) Try.func43 rfl rfl ?_
  refine R.lenT .here fun hnl _ => ?_
  rw [ints_len] at hnl
  repeat' (first | refine R.seq ?_ | refine R.skip ?_ | refine R.inBlock ?_ | refine R.block ?_ | refine R.condT rfl ?_ | refine R.condF rfl ?_ | refine R.exit rfl ?_ | refine R.label ?_ | (refine R.region (id := 0) ?_; all_goals (refine RO.q0 rfl (QOk.move rfl) rfl ?_); all_goals (first | refine RO.q0 rfl (QOk.lenSlice rfl) rfl ?_ | refine RO.q0 rfl (QOk.lenStr rfl) rfl ?_ | refine RO.q0 rfl (QOk.lenArr rfl) rfl ?_); all_goals (first | refine RO.q0 rfl (QOk.arith rfl rfl rfl (w64 (by omega))) rfl ?_ | refine RO.q0 rfl (QOk.arith rfl rfl rfl (wu8 (by omega))) rfl ?_ | refine RO.q0 rfl (QOk.arith rfl rfl rfl (wu16 (by omega))) rfl ?_ | refine RO.q0 rfl (QOk.arith rfl rfl rfl (wu32 (by omega))) rfl ?_ | refine RO.q0 rfl (QOk.arith rfl rfl rfl (wu64 (by omega))) rfl ?_); all_goals (refine RO.q0 rfl (QOk.assign rfl) rfl ?_); all_goals (refine RO.q0 rfl (QOk.assign rfl) rfl ?_); all_goals refine RO.nil ?_))
  refine R.sub (e' := [(0, .slice a n cp), (2, .int .i64 0), (3, .int .i64 ((n : Int) - 1))]) (by repeat (first | exact Sub.nil | refine Sub.cons rfl ?_)) ?_
  refine R.loop (fun k e own gx => gx = g ∧ ∃ (i : Nat) (cur : List Int) (iv jv : Int), iv = i ∧ jv = (n : Int) - 1 - i ∧ i ≤ n ∧ n - i = k ∧ Rev l cur i ∧ e = [(0, .slice a n cp), (2, .int .i64 iv), (3, .int .i64 jv)] ∧ own = [sl 3 1 a n cp (ints cur)]) ?_ n ⟨rfl, 0, l, 0, (n : Int) - 1, rfl, by omega, by omega, rfl, Rev.zero l, rfl, rfl⟩
  rintro k e own gx ⟨rfl, i, cur, iv, jv, rfl, hj, hin, hk, hR, rfl, rfl⟩ ih
  by_cases hc : 2 * i + 1 < n
  · refine R.openSlT (T := 3) (sz := 1) .here (by omega) fun b sp ha hlen hel hcap hmax hsp => ?_
    subst ha
    have hcl := hR.1
    obtain ⟨x, hx⟩ : ∃ x, cur[i]? = some x := ⟨_, List.getElem?_eq_getElem (by omega)⟩
    obtain ⟨y, hy⟩ : ∃ y, cur[l.length - 1 - i]? = some y := ⟨_, List.getElem?_eq_getElem (by omega)⟩
    obtain rfl : jv = ((l.length - 1 - i : Nat) : Int) := by omega
    have hli : Look ((ints cur).flatten ++ sp) (0 + (i : Int).toNat * 1) [.int .i64 x] := look_flat hel (ints_at hx)
    have hlj : Look ((ints cur).flatten ++ sp) (0 + ((l.length - 1 - i : Nat) : Int).toNat * 1) [.int .i64 y] := look_flat hel (ints_at hy)
    have hst1 : SetOk ((ints cur).flatten ++ sp) (0 + (i : Int).toNat * 1) [.int .i64 y] ((ints (cur.set i y)).flatten ++ sp) := by
      rw [← ints_set]; exact setOk_flat0 hel (ints_at hx) rfl
    have hne : i ≠ l.length - 1 - i := by omega
    have hy2 : (cur.set i y)[l.length - 1 - i]? = some y := by rw [List.getElem?_set_ne hne, hy]
    have hst2 : SetOk ((ints (cur.set i y)).flatten ++ sp) (0 + ((l.length - 1 - i : Nat) : Int).toNat * 1) [.int .i64 x] ((ints ((cur.set i y).set (l.length - 1 - i) x)).flatten ++ sp) := by
      rw [← ints_set (l := cur.set i y)]; exact setOk_flat0 (i := l.length - 1 - i) ints_el (ints_at hy2) rfl
    repeat' (first | refine R.seq ?_ | refine R.skip ?_ | refine R.inBlock ?_ | refine R.block ?_ | refine R.condT rfl ?_ | refine R.condF rfl ?_ | refine R.exit rfl ?_ | refine R.label ?_ | (refine R.region (id := 1) ?_; all_goals (refine RO.q0 rfl (QOk.move rfl) rfl ?_); all_goals (refine RO.q0 rfl (QOk.move rfl) rfl ?_); all_goals (first | refine RO.q0 rfl (QOk.cmpT rfl rfl rfl (by first | decide | omega)) rfl ?_ | refine RO.q0 rfl (QOk.cmpF rfl rfl rfl (by first | decide | omega)) rfl ?_ | refine RO.q0 rfl (QOk.strCmp rfl rfl rfl (by first | assumption | rfl)) rfl ?_ | refine RO.q0 rfl (QOk.boolEq rfl rfl) rfl ?_ | refine RO.q0 rfl (QOk.boolNe rfl rfl) rfl ?_ | refine RO.q0 rfl (QOk.sliceNil rfl rfl rfl) rfl ?_ | refine RO.q0 rfl (QOk.sliceNotNil rfl rfl rfl) rfl ?_ | refine RO.q0 rfl (QOk.eqIT rfl rfl rfl (by first | decide | assumption | (simp only [List.cons.injEq]; omega))) rfl ?_ | refine RO.q0 rfl (QOk.eqIF rfl rfl rfl (by first | decide | assumption | (simp only [List.cons.injEq]; omega))) rfl ?_ | refine RO.cmpS rfl rfl rfl rfl (fun h => ?_) (fun h => ?_)); all_goals refine RO.nil ?_) | (refine R.draw (id := 3) [⟨0, 1, []⟩, ⟨1, 1, []⟩, ⟨2, 1, []⟩, ⟨3, 1, []⟩, ⟨4, 1, []⟩, ⟨5, 1, []⟩, ⟨6, 1, []⟩, ⟨7, 1, []⟩, ⟨8, 1, []⟩, ⟨9, 1, []⟩, ⟨10, 1, []⟩, ⟨11, 1, []⟩, ⟨12, 1, []⟩, ⟨13, 0, [2, 3]⟩, ⟨14, 1, []⟩, ⟨15, 0, []⟩] (fl := []) mo (Floats.nil) (by decide +kernel) ?_; all_goals (refine RD.q0 rfl rfl (QOk.move rfl) rfl ?_); all_goals (refine RD.q0 rfl rfl (QOk.move rfl) rfl ?_); all_goals (refine RD.q0 rfl rfl (QOk.move rfl) rfl ?_); all_goals (refine RD.q0 rfl rfl (QOk.move rfl) rfl ?_); all_goals (refine RD.q0 rfl rfl (QOk.move rfl) rfl ?_); all_goals (refine RD.q0 rfl rfl (QOk.move rfl) rfl ?_); all_goals (first | refine RD.q0 rfl rfl (QOk.indexAddrC rfl rfl rfl) rfl ?_ | refine RD.q0 rfl rfl (QOk.indexAddrAC rfl rfl rfl) rfl ?_ | refine RD.q0 rfl rfl (QOk.indexAddr rfl rfl (by omega)) rfl ?_ | refine RD.q0 rfl rfl (QOk.indexAddrA rfl rfl (by omega)) rfl ?_); all_goals (first | refine RD.ld rfl rfl rfl ?_ | refine RD.ldA rfl rfl rfl ?_ | refine RD.ldL rfl rfl rfl hlj ?_ | refine RD.ldL rfl rfl rfl hli ?_ | refine RD.q0 rfl rfl (QOk.ldM rfl (by assumption)) rfl ?_ | refine RD.q0 rfl rfl (QOk.ldMA rfl (by assumption) (by first | rfl | assumption)) rfl ?_ | refine RD.q0 rfl rfl (QOk.ldMW rfl (by assumption)) rfl ?_ | refine RD.q0 rfl rfl (QOk.ldMWA rfl (by assumption)) rfl ?_ | refine RD.q0 rfl rfl (QOk.ldM0 rfl (by assumption)) rfl ?_ | refine RD.q0 rfl rfl (QOk.ldM0A rfl (by assumption)) rfl ?_ | refine RD.q0 rfl rfl (QOk.loadMem0 rfl (by assumption)) rfl ?_); all_goals (refine RD.q0 rfl rfl (QOk.move rfl) rfl ?_); all_goals (refine RD.q0 rfl rfl (QOk.move rfl) rfl ?_); all_goals (first | refine RD.q0 rfl rfl (QOk.indexAddrC rfl rfl rfl) rfl ?_ | refine RD.q0 rfl rfl (QOk.indexAddrAC rfl rfl rfl) rfl ?_ | refine RD.q0 rfl rfl (QOk.indexAddr rfl rfl (by omega)) rfl ?_ | refine RD.q0 rfl rfl (QOk.indexAddrA rfl rfl (by omega)) rfl ?_); all_goals (first | refine RD.ld rfl rfl rfl ?_ | refine RD.ldA rfl rfl rfl ?_ | refine RD.ldL rfl rfl rfl hlj ?_ | refine RD.ldL rfl rfl rfl hli ?_ | refine RD.q0 rfl rfl (QOk.ldM rfl (by assumption)) rfl ?_ | refine RD.q0 rfl rfl (QOk.ldMA rfl (by assumption) (by first | rfl | assumption)) rfl ?_ | refine RD.q0 rfl rfl (QOk.ldMW rfl (by assumption)) rfl ?_ | refine RD.q0 rfl rfl (QOk.ldMWA rfl (by assumption)) rfl ?_ | refine RD.q0 rfl rfl (QOk.ldM0 rfl (by assumption)) rfl ?_ | refine RD.q0 rfl rfl (QOk.ldM0A rfl (by assumption)) rfl ?_ | refine RD.q0 rfl rfl (QOk.loadMem0 rfl (by assumption)) rfl ?_); all_goals (first | refine RD.q0 rfl rfl (QOk.indexAddrC rfl rfl rfl) rfl ?_ | refine RD.q0 rfl rfl (QOk.indexAddrAC rfl rfl rfl) rfl ?_ | refine RD.q0 rfl rfl (QOk.indexAddr rfl rfl (by omega)) rfl ?_ | refine RD.q0 rfl rfl (QOk.indexAddrA rfl rfl (by omega)) rfl ?_); all_goals ((first | refine RD.ef0 rfl (OpOk.store rfl rfl rfl ?_) | refine RD.ef0 rfl (OpOk.storeL rfl rfl rfl (by assumption) ?_) | refine RD.ef0 rfl (OpOk.storeL rfl rfl rfl hst1 ?_) | refine RD.ef0 rfl (OpOk.storeL rfl rfl rfl hst2 ?_)); all_goals (refine And.intro (by repeat (first | exact Locks.nil | refine Locks.cons0 ?_ | refine Locks.cons1 ?_)) ?_)); all_goals (first | refine RD.q0 rfl rfl (QOk.indexAddrC rfl rfl rfl) rfl ?_ | refine RD.q0 rfl rfl (QOk.indexAddrAC rfl rfl rfl) rfl ?_ | refine RD.q0 rfl rfl (QOk.indexAddr rfl rfl (by omega)) rfl ?_ | refine RD.q0 rfl rfl (QOk.indexAddrA rfl rfl (by omega)) rfl ?_); all_goals ((first | refine RD.ef0 rfl (OpOk.store rfl rfl rfl ?_) | refine RD.ef0 rfl (OpOk.storeL rfl rfl rfl (by assumption) ?_) | refine RD.ef0 rfl (OpOk.storeL rfl rfl rfl hst1 ?_) | refine RD.ef0 rfl (OpOk.storeL rfl rfl rfl hst2 ?_)); all_goals (refine And.intro (by repeat (first | exact Locks.nil | refine Locks.cons0 ?_ | refine Locks.cons1 ?_)) ?_)); all_goals (refine RD.nil ?_)))
    refine R.closeSl (n := n) (cap := cp) (by rw [ints_len]; simp; omega) ints_el hcap hmax hsp ?_
    repeat' (first | refine R.seq ?_ | refine R.skip ?_ | refine R.inBlock ?_ | refine R.block ?_ | refine R.condT rfl ?_ | refine R.condF rfl ?_ | refine R.exit rfl ?_ | refine R.label ?_ | (refine R.region (id := 2) ?_; all_goals (refine RO.q0 rfl (QOk.move rfl) rfl ?_); all_goals (first | refine RO.q0 rfl (QOk.arith rfl rfl rfl (w64 (by omega))) rfl ?_ | refine RO.q0 rfl (QOk.arith rfl rfl rfl (wu8 (by omega))) rfl ?_ | refine RO.q0 rfl (QOk.arith rfl rfl rfl (wu16 (by omega))) rfl ?_ | refine RO.q0 rfl (QOk.arith rfl rfl rfl (wu32 (by omega))) rfl ?_ | refine RO.q0 rfl (QOk.arith rfl rfl rfl (wu64 (by omega))) rfl ?_ | refine RO.q0 rfl (QOk.strAdd rfl rfl) rfl ?_); all_goals (refine RO.q0 rfl (QOk.move rfl) rfl ?_); all_goals (first | refine RO.q0 rfl (QOk.arith rfl rfl rfl (w64 (by omega))) rfl ?_ | refine RO.q0 rfl (QOk.arith rfl rfl rfl (wu8 (by omega))) rfl ?_ | refine RO.q0 rfl (QOk.arith rfl rfl rfl (wu16 (by omega))) rfl ?_ | refine RO.q0 rfl (QOk.arith rfl rfl rfl (wu32 (by omega))) rfl ?_ | refine RO.q0 rfl (QOk.arith rfl rfl rfl (wu64 (by omega))) rfl ?_); all_goals (refine RO.q0 rfl (QOk.assign rfl) rfl ?_); all_goals (refine RO.q0 rfl (QOk.assign rfl) rfl ?_); all_goals refine RO.nil ?_))
    refine R.sub (e' := [(0, .slice _ n cp), (2, .int .i64 _), (3, .int .i64 _)]) (by repeat (first | exact Sub.nil | refine Sub.cons rfl ?_)) ?_
    exact ih (n - (i + 1)) _ _ _ (by omega) ⟨rfl, i + 1, _, _, _, by omega, by omega, by omega, rfl, hR.step (by omega) hx hy, rfl, rfl⟩
  · repeat' (first | refine R.seq ?_ | refine R.skip ?_ | refine R.inBlock ?_ | refine R.block ?_ | refine R.condT rfl ?_ | refine R.condF rfl ?_ | refine R.exit rfl ?_ | refine R.label ?_ | (refine R.region (id := 1) ?_; all_goals (refine RO.q0 rfl (QOk.move rfl) rfl ?_); all_goals (refine RO.q0 rfl (QOk.move rfl) rfl ?_); all_goals (first | refine RO.q0 rfl (QOk.cmpT rfl rfl rfl (by first | decide | omega)) rfl ?_ | refine RO.q0 rfl (QOk.cmpF rfl rfl rfl (by first | decide | omega)) rfl ?_ | refine RO.q0 rfl (QOk.strCmp rfl rfl rfl (by first | assumption | rfl)) rfl ?_ | refine RO.q0 rfl (QOk.boolEq rfl rfl) rfl ?_ | refine RO.q0 rfl (QOk.boolNe rfl rfl) rfl ?_ | refine RO.q0 rfl (QOk.sliceNil rfl rfl rfl) rfl ?_ | refine RO.q0 rfl (QOk.sliceNotNil rfl rfl rfl) rfl ?_ | refine RO.q0 rfl (QOk.eqIT rfl rfl rfl (by first | decide | assumption | (simp only [List.cons.injEq]; omega))) rfl ?_ | refine RO.q0 rfl (QOk.eqIF rfl rfl rfl (by first | decide | assumption | (simp only [List.cons.injEq]; omega))) rfl ?_ | refine RO.cmpS rfl rfl rfl rfl (fun h => ?_) (fun h => ?_)); all_goals refine RO.nil ?_))
    rw [hR.done (by omega)]
    exact R.endK Try.func43 rfl (A := [sl 3 1 _ _ _ _]) (by repeat (first | exact Pick.nil | apply Pick.cons (by (repeat (first | exact .here | apply Take.there)); (first | done | fail)))) fun _ => rfl
end Go.Proofs.Ytemgdeknjnlifaa
