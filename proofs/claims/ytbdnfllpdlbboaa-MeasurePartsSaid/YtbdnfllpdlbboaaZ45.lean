import Derived.Test.YtbdnfllpdlbboaaZ42
import Derived.Test.YtbdnfllpdlbboaaZ43
import Derived.Test.YtbdnfllpdlbboaaZ44
namespace Go.Proofs.Ytbdnfllpdlbboaa
open Go Go.Zed
set_option maxRecDepth 10000
set_option maxHeartbeats 4000000
theorem atS_ptD : ∀ (l : List Int) (t : PT), atS t.st l = (atP t l).map PT.st
  | [], t => by rw [atS, atP]; rfl
  | i :: is, .mk h sub => by
    rw [PT.st, atS, atP, stL_map, List.getElem?_map]
    by_cases h0 : 0 ≤ i
    · rw [if_pos h0, if_pos h0]
      cases h1 : sub[i.toNat]? with
      | none => rfl
      | some q => simp only [Option.map_some]; rw [atS_ptD is q]
    · rw [if_neg h0, if_neg h0]; rfl
theorem Dp.at_ {g : Img} {t q : PT} {p p' : Pf} {l : List Int} (h : Dp g t p) (hat : atP t l = some q) (hq : Rep g q) (hp : atPf p l = some p') : Dp g q p' := by
  obtain ⟨x, k1, k2, k3, k4, k5⟩ := h
  rcases at_lk l k3 k2 k1 with ⟨h1, _⟩ | ⟨q', y, p2, h1, h2, h3, h4, h5⟩
  · rw [h1] at hat; cases hat
  · rw [h1] at hat; cases hat
    rw [h2] at hp; cases hp
    refine ⟨y, h3, h5, h4, hq, ?_⟩
    have := atS_ptD l t
    rw [h1, k5, atS_pf, h2] at this
    exact (Option.some.inj this).symm
section
variable {c : Cx} {g : Img} {D : List Deferred} {ty : TypeId} {e : List (Nat × Value)} {own r : List HProp} {K : Value → List HProp → Img → Prop} {xs : List Operand} {ats : Array TypeId} {fid N : Nat} {F0 : Frag} {g0 : Img} {Post : Value → List HProp → Img → Prop}
theorem c_copyD {t : PT} {p : Pf} (hx : evs e xs = some [.agg t.h.cells.toArray]) (h : Dp g t p) (hK : ∀ g2 t', Le g g2 → Dp g2 t' p → K (.agg t'.h.cells.toArray) own g2) :
    OpOk (fnCx Try.prog fid N F0 g0 Post) D (.call { callee := .value (.func 27), args := xs.toArray, argTypes := ats }) ty e own g K := by
  obtain ⟨x, k1, k2, k3, k4, k5⟩ := h
  rw [k1.cells] at hx
  refine OpOk.callV (f := 27) (fl := []) (cl := []) rfl hx (fun F => cpP_ok p x k3 g k2 F) .nil ?_
  rintro v own' g' hle ⟨rfl, y, rfl, h1, h2⟩
  obtain ⟨t', hc, hd⟩ := Dp.of (h1.trans k3) h2
  rw [hc]
  exact hK g' t' hle hd
theorem c_refAtD {t : PT} {p : Pf} {a : Option Addr} {n cap : Nat} {l : List Int} (hx : evs e xs = some [.agg t.h.cells.toArray, .slice a n cap]) (h : Dp g t p) (hl : Sl g 1 a n (ints l)) (hc : n ≤ cap) (hn : l.length ≤ 1000000000000)
    (h1 : ∀ t' p', atPf p l = some p' → Dp g t' p' → K (.tuple [.agg t'.h.cells.toArray, .bool true].toArray) own g) (h2 : atPf p l = none → K (.tuple [.agg zPH.cells.toArray, .bool false].toArray) own g) :
    OpOk (fnCx Try.prog fid N F0 g0 Post) D (.call { callee := .value (.func 29), args := xs.toArray, argTypes := ats }) ty e own g K := by
  have key := atS_ptD l t
  rw [h.st, atS_pf] at key
  refine c_someAt hx (fun F => atR_ok l h.rep hl hc hn F) (fun q hat hq => ?_) fun hat => ?_
  · rw [hat] at key
    cases hp : atPf p l with
    | none => rw [hp] at key; cases key
    | some p' => exact h1 q p' hp (h.at_ hat hq hp)
  · rw [hat] at key
    cases hp : atPf p l with
    | none => exact h2 hp
    | some p' => rw [hp] at key; cases key
theorem c_refWithD {t t2 : PT} {p part q : Pf} {a : Option Addr} {n cap : Nat} {l : List Int} (hx : evs e xs = some [.agg t.h.cells.toArray, .slice a n cap, .agg t2.h.cells.toArray]) (h : Dp g t p) (h2 : Dp g t2 part) (hat : atPf p l = some q) (hl : Sl g 1 a n (ints l)) (hc : n ≤ cap) (hn : l.length ≤ 1000000000000)
    (hK : ∀ g2 t', Le g g2 → Dp g2 t' (setPf p l part) → K (.agg t'.h.cells.toArray) own g2) :
    OpOk (fnCx Try.prog fid N F0 g0 Post) D (.call { callee := .value (.func 32), args := xs.toArray, argTypes := ats }) ty e own g K := by
  obtain ⟨x, k1, k2, k3, k4, k5⟩ := h
  obtain ⟨x2, j1, j2, j3, j4, j5⟩ := h2
  rw [k1.cells, j1.cells] at hx
  refine c_refWith hx (fun F => refWith_ok j3 l k3 k2 j2 hat hl hc hn F) fun g2 y hle hy hry => ?_
  obtain ⟨t', hc, hd⟩ := Dp.of hy hry
  rw [hc]
  exact hK g2 t' hle hd
theorem c_validD {t : PT} {p : Pf} {b : Bool} (hx : evs e xs = some [.agg t.h.cells.toArray]) (h : Dp g t p) (hb : msrS (pfS p) = b) (hK : K (.bool b) own g) :
    OpOk (fnCx Try.prog fid N F0 g0 Post) D (.call { callee := .value (.func 30), args := xs.toArray, argTypes := ats }) ty e own g K := by
  refine OpOk.pure rfl hx (fun F => valid_ok F h.rep) ?_
  rw [msr_st, h.st, hb]; exact hK
theorem litP {y : List DV} {p : Pf} (h : shL y = encP p) : ∃ (r nm : ByteArray) (o lab : Int) (T T' Ts TM n c n' c' sn sc mn mc : Nat) (a a' sa ma : Option Addr) (es fs su mm : List (List DV)), y = [.at (.string r), .at (.int .u8 o), .at (.string nm), .sl T 3 a n c es, .sl T' 4 a' n' c' fs, .at (.int .i64 lab), .sl Ts 8 sa sn sc su, .sl TM 1 ma mn mc mm] := by
  obtain ⟨r, ⟨o, nm, ts, fs⟩, lab, ss, ms⟩ := p
  obtain ⟨T, a, n, c, es, T', a', n', c', es', Ts, sa, sn, sc, su, TM, ma, mn, mc, mm, rfl, _⟩ := invP h
  exact ⟨r, nm, o, lab, T, T', Ts, TM, n, c, n', c', sn, sc, mn, mc, a, a', sa, ma, es, es', su, mm, rfl⟩
/-- What is owned, with its cells told. -/
def OwnP (y : List DV) (cs : List Value) (p : Pf) : Prop := shL y = encP p ∧ vals y = cs
theorem c_atOwn {t : PT} {p q : Pf} {a : Option Addr} {n cap : Nat} {l : List Int} (hx : evs e xs = some [.agg t.h.cells.toArray, .slice a n cap]) (h : Dp g t p) (hl : Sl g 1 a n (ints l)) (hn : l.length ≤ 1000000000000) (hm : msrS (pfS p) = true) (hat : atPf p l = some q)
    (hK : ∀ g1 y (hd : PH), Le g g1 → OwnP y hd.cells q → K (.tuple [.agg hd.cells.toArray, .int .i64 0].toArray) (ownL none y :: own) g1) :
    OpOk (fnCx Try.prog fid N F0 g0 Post) D (.call { callee := .value (.func 28), args := xs.toArray, argTypes := ats }) ty e own g K := by
  obtain ⟨x, k1, k2, k3, k4, k5⟩ := h
  rw [k1.cells] at hx
  refine OpOk.callV (f := 28) (fl := []) (cl := []) rfl hx (fun F => atF_ok F g k3 k2 hl hn) .nil ?_
  rintro v own' g' hle (⟨e1, rfl, rfl⟩ | ⟨e1, e2, rfl, rfl⟩ | ⟨e1, q', y, e2, hy, rfl, rfl⟩)
  · rw [hm] at e1; cases e1
  · rw [hat] at e2; cases e2
  · rw [hat] at e2; cases e2
    obtain ⟨r, nm, o, lab, T, T', Ts, TM, n, c, n', c', sn, sc, mn, mc, a, a', sa, ma, es, fs, su, mm, rfl⟩ := litP hy
    exact hK g' _ ⟨r, o, nm, ⟨a, n, c⟩, ⟨a', n', c'⟩, lab, ⟨sa, sn, sc⟩, ⟨ma, mn, mc⟩⟩ hle ⟨hy, rfl⟩
theorem c_withOwn {t t2 : PT} {p part : Pf} {a : Option Addr} {n cap : Nat} {l : List Int} (hx : evs e xs = some [.agg t.h.cells.toArray, .slice a n cap, .agg t2.h.cells.toArray]) (h : Dp g t p) (h2 : Dp g t2 part) (hl : Sl g 1 a n (ints l)) (hn : l.length ≤ 1000000000000) (hm : msrS (pfS p) = true) (hat : atPf p l ≠ none) (hm2 : msrS (pfS (setPf p l part)) = true)
    (hK : ∀ g1 y (hd : PH), Le g g1 → OwnP y hd.cells (setPf p l part) → K (.tuple [.agg hd.cells.toArray, .int .i64 0].toArray) (ownL none y :: own) g1) :
    OpOk (fnCx Try.prog fid N F0 g0 Post) D (.call { callee := .value (.func 24), args := xs.toArray, argTypes := ats }) ty e own g K := by
  obtain ⟨x, k1, k2, k3, k4, k5⟩ := h
  obtain ⟨x2, j1, j2, j3, j4, j5⟩ := h2
  rw [k1.cells, j1.cells] at hx
  refine OpOk.callV (f := 24) (fl := []) (cl := []) rfl hx (fun F => with_ok F g k3 k2 j3 j2 hl hn) .nil ?_
  rintro v own' g' hle (⟨e1, rfl, rfl⟩ | ⟨e1, e2, rfl, rfl⟩ | ⟨e1, e2, e3, rfl, rfl⟩ | ⟨e1, e2, e3, y, hy, rfl, rfl⟩)
  · rw [hm] at e1; cases e1
  · exact absurd e2 hat
  · rw [hm2] at e3; cases e3
  · obtain ⟨r, nm, o, lab, T, T', Ts, TM, n, c, n', c', sn, sc, mn, mc, a, a', sa, ma, es, fs, su, mm, rfl⟩ := litP hy
    exact hK g' _ ⟨r, o, nm, ⟨a, n, c⟩, ⟨a', n', c'⟩, lab, ⟨sa, sn, sc⟩, ⟨ma, mn, mc⟩⟩ hle ⟨hy, rfl⟩
theorem c_sameLend {y : List DV} {cs : List Value} {u : PT} {p q : Pf} {B : List HProp} (hx : evs e xs = some [.agg cs.toArray, .agg u.h.cells.toArray]) (h : OwnP y cs p) (h2 : Dp g u q) (he : p = q) (ht : Take (ownL none y) own B) (hK : ∀ g2, Le g g2 → K (.bool true) (ownL none y :: B) g2) :
    OpOk (fnCx Try.prog fid N F0 g0 Post) D (.call { callee := .value (.func 31), args := xs.toArray, argTypes := ats }) ty e own g K := by
  obtain ⟨hy, rfl⟩ := h
  have key : ∀ F, Fc Try.prog 31 #[.agg (vals y).toArray, .agg u.h.cells.toArray] [ownL none y] F g (fun v own' _ => own' = [ownL none y] ∧ v = .bool true) := fun F => by
    have := Fc.lend (P := Try.prog) (f := 31) (args := #[.agg (vals y).toArray, .agg u.h.cells.toArray]) (L := [ownL none y]) (own := []) (g := g) (Q := fun v o => o = [] ∧ v = .bool true) (fun F g1 hle hf => by
      obtain ⟨t1, hc, hd⟩ := Dp.of hy (Frz.rpL (m := none) (fun _ h => by cases h) y hf)
      have := sameP_ok F g1 hd (h2.mono hle)
      rw [← hc, eqb_yes he] at this
      exact Fc.entPost this fun v o g' ⟨h1, _, h3⟩ => ⟨o, .refl _, h1, h3⟩) F
    rw [List.append_nil] at this
    refine Fc.entPost this ?_
    rintro v o g' ⟨o2, rfl, rfl, rfl⟩
    exact ⟨_, by rw [List.append_nil]; exact .refl _, rfl, rfl⟩
  refine OpOk.callV (f := 31) (fl := []) (cl := []) rfl hx key (.cons ht .nil) ?_
  rintro v own' g' hle ⟨rfl, rfl⟩
  exact hK g' hle
theorem c_spoilO {y : List DV} {cs : List Value} {p : Pf} {B : List HProp} (hx : evs e xs = some [.agg cs.toArray]) (h : OwnP y cs p) (ht : Take (ownL none y) own B) (hK : ∀ v g2, Le g g2 → K v B g2) :
    OpOk (fnCx Try.prog fid N F0 g0 Post) D (.call { callee := .value (.func 33), args := xs.toArray, argTypes := ats }) ty e own g K := by
  obtain ⟨hy, rfl⟩ := h
  exact c_spoil hx (fun F => spoil_ok p y hy g F) ht hK
end
end Go.Proofs.Ytbdnfllpdlbboaa
