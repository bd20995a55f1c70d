import Derived.Test.YtbdnfllpdlbboaaZ8
import Derived.Test.YtbdnfllpdlbboaaZedY
namespace Go.Proofs.Ytbdnfllpdlbboaa
open Go Go.Zed
attribute [local irreducible] R RO RD OpOk QOk
set_option maxRecDepth 10000
set_option maxHeartbeats 4000000
/-! ### What a proof is, but for its formulas and marks -/
inductive ST where
  | mk (r : ByteArray) (lab : Int) (sub : List ST)
@[reducible] def ST.r : ST → ByteArray | .mk r _ _ => r
@[reducible] def ST.lab : ST → Int | .mk _ l _ => l
@[reducible] def ST.sub : ST → List ST | .mk _ _ s => s
mutual
def PT.st : PT → ST
  | .mk h sub => .mk h.r h.lab (stL sub)
def stL : List PT → List ST
  | [] => []
  | t :: ts => t.st :: stL ts
end
theorem stL_map : ∀ (l : List PT), stL l = l.map PT.st
  | [] => by rw [stL]; rfl
  | t :: ts => by rw [stL, stL_map ts]; rfl
theorem stL_len (l : List PT) : (stL l).length = l.length := by rw [stL_map]; simp
mutual
def pfS : Pf → ST
  | .mk r _ lab ss _ => .mk r lab (pfSs ss)
def pfSs : List Pf → List ST
  | [] => []
  | t :: ts => pfS t :: pfSs ts
end
theorem pfSs_map : ∀ (l : List Pf), pfSs l = l.map pfS
  | [] => by rw [pfSs]; rfl
  | t :: ts => by rw [pfSs, pfSs_map ts]; rfl
structure StS where
  (place : List Int) (w : Int) (p : ST)
@[reducible] def Stp.s (x : Stp) : StS := ⟨x.place, x.w, x.p.st⟩
mutual
def stepsS (skip : List Int → Bool) (place : List Int) (w : Int) : ST → List StS
  | .mk r lab sub => ⟨place, w, .mk r lab sub⟩ :: (if skip place then [] else stepsSL skip place (w / (2 * sub.length)) 0 sub)
def stepsSL (skip : List Int → Bool) (place : List Int) (w : Int) (i : Int) : List ST → List StS
  | [] => []
  | t :: ts => stepsS skip (place ++ [i]) w t ++ stepsSL skip place w (i + 1) ts
end
mutual
theorem steps_st (skip : List Int → Bool) : ∀ (t : PT) (place : List Int) (w : Int), (steps skip place w t).map Stp.s = stepsS skip place w t.st
  | .mk h sub, place, w => by
    rw [steps, PT.st, stepsS, List.map_cons, stL_len, Stp.s, PT.st]
    congr 1
    split
    · rfl
    · exact stepsL_st skip sub place _ 0
theorem stepsL_st (skip : List Int → Bool) : ∀ (l : List PT) (place : List Int) (w i : Int), (stepsL skip place w i l).map Stp.s = stepsSL skip place w i (stL l)
  | [], _, _, _ => by rw [stepsL, stL, stepsSL]; rfl
  | t :: ts, place, w, i => by
    rw [stepsL, stL, stepsSL, List.map_append, steps_st skip t, stepsL_st skip ts]
end
def goodS (s : StS) : Bool := decide (s.place.length ≤ 40) && decide (s.p.sub.length ≤ 8) && !(isQ s.p.r && decide (0 < s.p.sub.length))
theorem good_st (s : Stp) : good s = goodS s.s := by
  obtain ⟨pl, w, ⟨h, sub⟩⟩ := s
  simp only [good, goodS, Stp.s, PT.st, stL_len]
def msrS (t : ST) : Bool := decide ((stepsS sk40 [] whole t).length ≤ 300) && (stepsS sk40 [] whole t).all goodS
theorem msr_st (t : PT) : msr t = msrS t.st := by
  rw [msr, msrS, ← steps_st, List.length_map, List.all_map]
  congr 2
  funext s
  exact good_st s
/-! ### A proof as a deep value, and as it lies -/
inductive Lk : List DV → PT → Prop
  | mk {r nm : ByteArray} {o lab : Int} {T T' T3 T4 : Nat} {a a2 a3 a4 : Option Addr} {n n2 n3 n4 c c2 c3 c4 : Nat} {es es2 su mm : List (List DV)} {sub : List PT}
    (hl : su.length = sub.length) (hs : ∀ (i : Nat) (y : List DV) (q : PT), su[i]? = some y → sub[i]? = some q → Lk y q) :
    Lk [.at (.string r), .at (.int .u8 o), .at (.string nm), .sl T 3 a n c es, .sl T' 4 a2 n2 c2 es2, .at (.int .i64 lab), .sl T3 8 a3 n3 c3 su, .sl T4 1 a4 n4 c4 mm]
      (.mk ⟨r, o, nm, ⟨a, n, c⟩, ⟨a2, n2, c2⟩, lab, ⟨a3, n3, c3⟩, ⟨a4, n4, c4⟩⟩ sub)
theorem Lk.cells {x : List DV} {t : PT} (h : Lk x t) : t.h.cells = vals x := by
  cases h; rfl
theorem choose2 {α β γ : Type} {P : α → β → γ → Prop} : ∀ {l1 : List α} {l2 : List β}, l1.length = l2.length → (∀ (i : Nat) (x : α) (z : β), l1[i]? = some x → l2[i]? = some z → ∃ y, P x z y) →
    ∃ l : List γ, l.length = l1.length ∧ ∀ (i : Nat) (x : α) (z : β) (y : γ), l1[i]? = some x → l2[i]? = some z → l[i]? = some y → P x z y
  | [], [], _, _ => ⟨[], rfl, fun i x z y h => by simp at h⟩
  | [], _ :: _, h, _ => by simp at h
  | _ :: _, [], h, _ => by simp at h
  | x :: l1, z :: l2, hl, h => by
    obtain ⟨y, hy⟩ := h 0 x z rfl rfl
    obtain ⟨l, h1, h2⟩ := choose2 (l1 := l1) (l2 := l2) (by simpa using hl) fun i x z hx hz => h (i + 1) x z (by simpa using hx) (by simpa using hz)
    refine ⟨y :: l, by simp [h1], fun i x' z' y' hx hz hy' => ?_⟩
    cases i with
    | zero =>
      obtain rfl : x = x' := by simpa using hx
      obtain rfl : z = z' := by simpa using hz
      obtain rfl : y = y' := by simpa using hy'
      exact hy
    | succ i => exact h2 i x' z' y' (by simpa using hx) (by simpa using hz) (by simpa using hy')
theorem shLL_get {α : Type} {f : α → List DV} {es : List (List DV)} {l : List α} (h : shLL es = l.map f) : es.length = l.length ∧ ∀ (i : Nat) (x : List DV) (t : α), es[i]? = some x → l[i]? = some t → shL x = f t := by
  rw [shLL_map] at h
  refine ⟨by simpa using congrArg List.length h, fun i x t hx ht => ?_⟩
  have := congrArg (fun l => l[i]?) h
  simp only [List.getElem?_map, hx, ht, Option.map_some, Option.some.injEq] at this
  exact this
theorem Lk.ex (g : Img) (p : Pf) (x : List DV) (h : shL x = encP p) (hr : RpL g x) : ∃ t, Lk x t ∧ Rep g t ∧ t.st = pfS p := by
  match p, h with
  | .mk r (.mk o nm ts fs) lab ss ms, h =>
    obtain ⟨T, a, n, c, es, T', a', n', c', es', Ts, sa, sn, sc, su, Tm, ma, mn, mc, mm, rfl, h1, h2, h3, h4⟩ := invP h
    have hsu := hr (.sl Ts 8 sa sn sc su) (by simp)
    cases hsu with
    | sl hs hn hq =>
      obtain ⟨hlen, hget⟩ := shLL_get h3
      obtain ⟨sub, hl, hP⟩ := choose2 (P := fun y p' t => Lk y t ∧ Rep g t ∧ t.st = pfS p') hlen fun i y p' hy hp' =>
        have hmem := List.mem_of_getElem? hp'
        Lk.ex g p' y (hget i y p' hy hp') (hq y (List.mem_of_getElem? hy))
      have key : ∀ (i : Nat) (q : PT), sub[i]? = some q → ∃ y p', su[i]? = some y ∧ ss[i]? = some p' ∧ Lk y q ∧ Rep g q ∧ q.st = pfS p' := by
        intro i q hq'
        have hi : i < sub.length := (List.getElem?_eq_some_iff.1 hq').1
        have e1 : su[i]? = some su[i] := List.getElem?_eq_getElem (by omega)
        have e2 : ss[i]? = some ss[i] := List.getElem?_eq_getElem (by omega)
        exact ⟨_, _, e1, e2, hP i _ _ q e1 e2 hq'⟩
      have hcells : sub.map (fun t => t.h.cells) = su.map vals := by
        refine List.ext_getElem? fun i => ?_
        rw [List.getElem?_map, List.getElem?_map]
        rcases hq' : sub[i]? with _ | q
        · rw [List.getElem?_eq_none_iff] at hq'
          rw [List.getElem?_eq_none (by omega)]; rfl
        · obtain ⟨y, p', e1, _, hk, _⟩ := key i q hq'
          rw [e1]; exact congrArg some hk.cells
      refine ⟨.mk ⟨r, o, nm, ⟨a, n, c⟩, ⟨a', n', c'⟩, lab, ⟨sa, sn, sc⟩, ⟨ma, mn, mc⟩⟩ sub, .mk hl.symm fun i y q hy hq' => ?_, .mk (by rw [hcells]; exact hs) (by omega) fun q hq' => ?_, ?_⟩
      · obtain ⟨y', p', e1, _, hk, _⟩ := key i q hq'
        rw [hy] at e1; cases e1; exact hk
      · obtain ⟨i, hi⟩ := List.mem_iff_getElem?.1 hq'
        obtain ⟨_, _, _, _, _, hk, _⟩ := key i q hi
        exact hk
      · rw [PT.st, pfS, stL_map, pfSs_map]
        congr 1
        refine List.ext_getElem? fun i => ?_
        rw [List.getElem?_map, List.getElem?_map]
        rcases hq' : sub[i]? with _ | q
        · rw [List.getElem?_eq_none_iff] at hq'
          rw [List.getElem?_eq_none (by omega)]; rfl
        · obtain ⟨y, p', _, e2, _, _, hk⟩ := key i q hq'
          rw [e2]; exact congrArg some hk
termination_by SizeOf.sizeOf p
decreasing_by
  have := List.sizeOf_lt_of_mem hmem
  simp only [Pf.mk.sizeOf_spec]; omega
/-! ### The part at a place -/
def atPf : Pf → List Int → Option Pf
  | p, [] => some p
  | .mk _ _ _ ss _, i :: is => match (if 0 ≤ i then ss[i.toNat]? else none) with
    | some q => atPf q is
    | none => none
theorem at_lk {g : Img} : ∀ (l : List Int) {p : Pf} {x : List DV} {t : PT}, shL x = encP p → RpL g x → Lk x t → (atP t l = none ∧ atPf p l = none) ∨ ∃ q y p', atP t l = some q ∧ atPf p l = some p' ∧ Lk y q ∧ shL y = encP p' ∧ RpL g y
  | [], p, x, t, h, hr, hk => .inr ⟨t, x, p, by rw [atP], by rw [atPf], hk, h, hr⟩
  | i :: is, .mk r (.mk o nm ts fs) lab ss ms, x, t, h, hr, hk => by
    obtain ⟨T, a, n, c, es, T', a', n', c', es', Ts, sa, sn, sc, su, Tm, ma, mn, mc, mm, rfl, h1, h2, h3, h4⟩ := invP h
    have hsu := hr (.sl Ts 8 sa sn sc su) (by simp)
    cases hsu with
    | sl hs hn hq =>
      obtain ⟨hlen, hget⟩ := shLL_get h3
      cases hk with
      | mk hl hks =>
        rename_i sub
        rw [atP, atPf]
        by_cases h0 : 0 ≤ i
        · rw [if_pos h0, if_pos h0]
          by_cases hi : i.toNat < su.length
          · have e1 : su[i.toNat]? = some su[i.toNat] := List.getElem?_eq_getElem hi
            have e2 : ss[i.toNat]? = some ss[i.toNat] := List.getElem?_eq_getElem (by omega)
            have e3 : sub[i.toNat]? = some sub[i.toNat] := List.getElem?_eq_getElem (by omega)
            dsimp only [PT.sub]
            rw [e2, e3]
            exact at_lk is (hget _ _ _ e1 e2) (hq _ (List.mem_of_getElem? e1)) (hks _ _ _ e1 e3)
          · left
            dsimp only [PT.sub]
            rw [List.getElem?_eq_none (by omega), List.getElem?_eq_none (by omega)]
            exact ⟨rfl, rfl⟩
        · left
          rw [if_neg h0, if_neg h0]
          exact ⟨rfl, rfl⟩
theorem shL_form {o : Int} {nm : ByteArray} {T T' n c n' c' : Nat} {ad ad' : Option Addr} {es es' : List (List DV)} {ts : List Tm} {fs : List Fm} (h : shLL es = ts.map encT) (h' : shLL es' = fs.map encF) :
    shL [.at (.int .u8 o), .at (.string nm), .sl T 3 ad n c es, .sl T' 4 ad' n' c' es'] = [.at (.int .u8 o), .at (.string nm), slD 3 (encTs ts), slD 4 (encFs fs)] := by
  have e1 : es.length = ts.length := by have := congrArg List.length h; rw [shLL_map] at this; simpa using this
  have e2 : es'.length = fs.length := by have := congrArg List.length h'; rw [shLL_map] at this; simpa using this
  simp only [shL_map, List.map_cons, List.map_nil, DV.sh, slD, encTs_map, encFs_map, h, h', List.length_map, e1, e2]
end Go.Proofs.Ytbdnfllpdlbboaa
