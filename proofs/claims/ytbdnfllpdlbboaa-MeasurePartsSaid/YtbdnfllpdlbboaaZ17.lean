import Derived.Test.YtbdnfllpdlbboaaZ16
namespace Go.Proofs.Ytbdnfllpdlbboaa
open Go Go.Zed
set_option maxRecDepth 10000
set_option maxHeartbeats 4000000
/-! ### Proofs that lie still, with what they are -/
theorem Fc.freezePost {P : Program} {f : FuncId} {args : Array Value} {own : List HProp} {F : Frag} {g : Img} {Q Q' : Value → List HProp → Img → Prop} (h : Fc P f args own F g Q)
    (hq : ∀ v o g', Q v o g' → ∀ g2, Le g' g2 → Frz o g2 → Q' v [] g2) : Fc P f args own F g Q' := by
  intro w hw
  refine (h w hw).mono ?_
  rintro e w' ⟨v, own', g', rfl, hle', hQ, ⟨fr, hs, hg⟩⟩
  rw [← List.append_nil fr, List.append_assoc] at hg
  obtain ⟨k1, k2, k3⟩ := Good.frzF hg
  exact ⟨v, [], _, rfl, hle'.trans k2, hq _ _ _ hQ _ k2 ⟨fr, hs, k3⟩, [], rfl, k1⟩
def Dp (g : Img) (t : PT) (p : Pf) : Prop := ∃ x, Lk x t ∧ RpL g x ∧ shL x = encP p ∧ Rep g t ∧ t.st = pfS p
theorem Dp.mono {g g' : Img} {t : PT} {p : Pf} (h : Dp g t p) (hl : Le g g') : Dp g' t p := by
  obtain ⟨x, h1, h2, h3, h4, h5⟩ := h
  exact ⟨x, h1, h2.mono hl, h3, h4.mono hl, h5⟩
theorem Dp.rep {g : Img} {t : PT} {p : Pf} (h : Dp g t p) : Rep g t := by
  obtain ⟨x, h1, h2, h3, h4, h5⟩ := h; exact h4
theorem Dp.st {g : Img} {t : PT} {p : Pf} (h : Dp g t p) : t.st = pfS p := by
  obtain ⟨x, h1, h2, h3, h4, h5⟩ := h; exact h5
theorem Dp.of {g : Img} {x : List DV} {p : Pf} (h : shL x = encP p) (hr : RpL g x) : ∃ t, vals x = t.h.cells ∧ Dp g t p := by
  obtain ⟨t, h1, h2, h3⟩ := Lk.ex g p x h hr
  exact ⟨t, h1.cells.symm, x, h1, hr, h, h2, h3⟩
@[reducible] def zPf : Pf := .mk { data := #[] } (.mk 0 { data := #[] } [] []) 0 [] []
theorem Dp.zero {g : Img} : Dp g (.mk zPH []) zPf := by
  have h : shL [.at (.string { data := #[] }), .at (.int .u8 0), .at (.string { data := #[] }), .sl 102 3 none 0 0 [], .sl 26 4 none 0 0 [], .at (.int .i64 0), .sl 30 8 none 0 0 [], .sl 37 1 none 0 0 []] = encP zPf := rfl
  refine ⟨_, .mk (su := []) rfl (by simp), rpL_zero, h, .mk .nil (by simp) (by simp), ?_⟩
  rw [PT.st, stL, pfS, pfSs]
/-- The error of With, and what it answers without one. -/
def withE (p : Pf) (l : List Int) (part : Pf) : Int := if msrS (pfS p) then (if (atPf p l).isSome then (if msrS (pfS (setPf p l part)) then 0 else 5) else 6) else 2
def withV (p : Pf) (l : List Int) (part : Pf) : Pf := if withE p l part = 0 then setPf p l part else zPf
def atE (p : Pf) (l : List Int) : Int := if msrS (pfS p) then (if (atPf p l).isSome then 0 else 6) else 2
def atV (p : Pf) (l : List Int) : Pf := if atE p l = 0 then (atPf p l).getD zPf else zPf
theorem with_okD (F : Frag) (g : Img) {p part : Pf} {t t2 : PT} (h : Dp g t p) (h2 : Dp g t2 part) {a : Option Addr} {n cap : Nat} {l : List Int} (hl : Sl g 1 a n (ints l)) (hn : l.length ≤ 1000000000000) :
    Fc Try.prog 24 #[.agg t.h.cells.toArray, .slice a n cap, .agg t2.h.cells.toArray] [] F g (fun v own' g' => own' = [] ∧ ∃ t', Dp g' t' (withV p l part) ∧ v = .tuple [.agg t'.h.cells.toArray, .int .i64 (withE p l part)].toArray) := by
  obtain ⟨x, k1, k2, k3, k4, k5⟩ := h
  obtain ⟨x2, j1, j2, j3, j4, j5⟩ := h2
  rw [k1.cells, j1.cells]
  refine Fc.freezePost (with_ok F g k3 k2 j3 j2 hl hn) ?_
  intro v o g' hw g2 hle hf
  refine ⟨rfl, ?_⟩
  rcases hw with ⟨e1, rfl, rfl⟩ | ⟨e1, e2, rfl, rfl⟩ | ⟨e1, e2, e3, rfl, rfl⟩ | ⟨e1, e2, e3, y, hy, rfl, rfl⟩
  · have he : withE p l part = 2 := by simp [withE, e1]
    exact ⟨.mk zPH [], by rw [withV, he, if_neg (by decide)]; exact .zero, by rw [he]⟩
  · have he : withE p l part = 6 := by simp [withE, e1, e2]
    exact ⟨.mk zPH [], by rw [withV, he, if_neg (by decide)]; exact .zero, by rw [he]⟩
  · have he : withE p l part = 5 := by rw [withE, e1, e3, if_pos rfl, if_pos (Option.isSome_iff_ne_none.2 e2)]; rfl
    exact ⟨.mk zPH [], by rw [withV, he, if_neg (by decide)]; exact .zero, by rw [he]⟩
  · have he : withE p l part = 0 := by rw [withE, e1, e3, if_pos rfl, if_pos (Option.isSome_iff_ne_none.2 e2)]; rfl
    obtain ⟨t', hc, hd⟩ := Dp.of hy (Frz.rpL (m := none) (fun _ h => by cases h) y hf)
    exact ⟨t', by rw [withV, if_pos he]; exact hd, by rw [he, hc]⟩
theorem at_okD (F : Frag) (g : Img) {p : Pf} {t : PT} (h : Dp g t p) {a : Option Addr} {n cap : Nat} {l : List Int} (hl : Sl g 1 a n (ints l)) (hn : l.length ≤ 1000000000000) :
    Fc Try.prog 28 #[.agg t.h.cells.toArray, .slice a n cap] [] F g (fun v own' g' => own' = [] ∧ ∃ t', Dp g' t' (atV p l) ∧ v = .tuple [.agg t'.h.cells.toArray, .int .i64 (atE p l)].toArray) := by
  obtain ⟨x, k1, k2, k3, k4, k5⟩ := h
  rw [k1.cells]
  refine Fc.freezePost (atF_ok F g k3 k2 hl hn) ?_
  intro v o g' hw g2 hle hf
  refine ⟨rfl, ?_⟩
  rcases hw with ⟨e1, rfl, rfl⟩ | ⟨e1, e2, rfl, rfl⟩ | ⟨e1, q, y, e2, hy, rfl, rfl⟩
  · have he : atE p l = 2 := by simp [atE, e1]
    exact ⟨.mk zPH [], by rw [atV, he, if_neg (by decide)]; exact .zero, by rw [he]⟩
  · have he : atE p l = 6 := by simp [atE, e1, e2]
    exact ⟨.mk zPH [], by rw [atV, he, if_neg (by decide)]; exact .zero, by rw [he]⟩
  · have he : atE p l = 0 := by simp [atE, e1, e2]
    obtain ⟨t', hc, hd⟩ := Dp.of hy (Frz.rpL (m := none) (fun _ h => by cases h) y hf)
    exact ⟨t', by rw [atV, if_pos he, e2]; exact hd, by rw [he, hc]⟩
section
variable {c : Cx} {g : Img} {D : List Deferred} {ty : TypeId} {e : List (Nat × Value)} {own r : List HProp} {K : Value → List HProp → Img → Prop} {xs : List Operand} {ats : Array TypeId} {fid N : Nat} {F0 : Frag} {g0 : Img} {Post : Value → List HProp → Img → Prop}
theorem c_with {p part : Pf} {t t2 : PT} {a : Option Addr} {n cap : Nat} {l : List Int} (hx : evs e xs = some [.agg t.h.cells.toArray, .slice a n cap, .agg t2.h.cells.toArray]) (h : Dp g t p) (h2 : Dp g t2 part) (hl : Sl g 1 a n (ints l)) (hn : l.length ≤ 1000000000000)
    (hK : ∀ g1 t', Le g g1 → Dp g1 t' (withV p l part) → K (.tuple [.agg t'.h.cells.toArray, .int .i64 (withE p l part)].toArray) own g1) :
    OpOk (fnCx Try.prog fid N F0 g0 Post) D (.call { callee := .value (.func 24), args := xs.toArray, argTypes := ats }) ty e own g K := by
  refine OpOk.callV (f := 24) (fl := []) (cl := []) rfl hx (fun F => with_okD F g h h2 hl hn) .nil ?_
  rintro v own' g' hle ⟨rfl, t', hd, rfl⟩
  exact hK g' t' hle hd
theorem c_atF {p : Pf} {t : PT} {a : Option Addr} {n cap : Nat} {l : List Int} (hx : evs e xs = some [.agg t.h.cells.toArray, .slice a n cap]) (h : Dp g t p) (hl : Sl g 1 a n (ints l)) (hn : l.length ≤ 1000000000000)
    (hK : ∀ g1 t', Le g g1 → Dp g1 t' (atV p l) → K (.tuple [.agg t'.h.cells.toArray, .int .i64 (atE p l)].toArray) own g1) :
    OpOk (fnCx Try.prog fid N F0 g0 Post) D (.call { callee := .value (.func 28), args := xs.toArray, argTypes := ats }) ty e own g K := by
  refine OpOk.callV (f := 28) (fl := []) (cl := []) rfl hx (fun F => at_okD F g h hl hn) .nil ?_
  rintro v own' g' hle ⟨rfl, t', hd, rfl⟩
  exact hK g' t' hle hd
end
end Go.Proofs.Ytbdnfllpdlbboaa
