/- What a reading says of values of recursive types: deep values, of any length. -/
import Derived.Test.YtbdnfllpdlbboaaZedR
import Derived.Test.YtbdnfllpdlbboaaZedY
namespace Go.Zed
open Go
variable {H : Type} {enc : TypeId × Value → H} {P : Program} {w : World} {sp : Nat → Bool} {held : Bool}
/-- The cells read as a value of the type, with so much fuel. -/
def RdN (enc : TypeId × Value → H) (P : Program) (w : World) (sp : Nat → Bool) (held : Bool) (m t : Nat) (cs : List Value) : Prop := ∃ x, DataW.trod enc P w 0 sp held m t cs = some x
theorem RdN.rd {m t : Nat} {cs : List Value} (h : RdN enc P w sp held m t cs) : Rd enc P w sp held t cs := ⟨m, h⟩
theorem RdN.struct {m t : Nat} {fs : Array Field} {cs : List Value} (hu : P.underlying t = some (.struct fs)) (h : RdN enc P w sp held m t cs) :
    cs.length = P.cellsOf t ∧ ∃ m', m' < m ∧ ∀ f ∈ fs.toList, RdN enc P w sp held m' f.type ((cs.drop f.offset).take (P.cellsOf f.type)) := by
  obtain ⟨x, h⟩ := h
  cases m with
  | zero => simp [DataW.trod] at h
  | succ m =>
    unfold DataW.trod at h
    rw [hu] at h
    simp only at h
    split at h
    · rename_i hl
      refine ⟨hl, m, by omega, fun f hf => ?_⟩
      rw [Option.map_eq_some_iff] at h
      obtain ⟨ys, hy, _⟩ := h
      obtain ⟨y, hy⟩ := mapM_all hy f hf
      exact ⟨y, hy⟩
    · cases h
theorem RdN.slice {m t el : Nat} {cs : List Value} (hu : P.underlying t = some (.slice el)) (hc : 0 < P.cellsOf el) (h : RdN enc P w sp held m t cs) :
    ∃ a n cap es m', cs = [.slice a n cap] ∧ n ≤ cap ∧ cap ≤ maxLen ∧ Sl (imgOf w) (P.cellsOf el) a n es ∧ m' < m ∧ ∀ x ∈ es, RdN enc P w sp held m' el x := by
  obtain ⟨x, h⟩ := h
  rcases DataW.trod_slice hu h with ⟨rfl, _⟩ | ⟨a, len, cap, elems, rest, n, rfl, rfl, _, _, hl, hm, hlen, hel, _⟩
  · have : 0 < m := by
      cases m with
      | zero => simp [DataW.trod] at h
      | succ m => omega
    exact ⟨none, 0, 0, [], m - 1, rfl, Nat.le_refl _, Nat.zero_le _, .nil, by omega, by simp⟩
  · have each : ∀ i, i < len → ∃ y, w.cells? 0 (a.add (i * P.cellsOf el)) (P.cellsOf el) = some y ∧ RdN enc P w sp held n el y := by
      intro i hi
      have h1 := hel i hi
      have : ∃ z, elems[i]? = some z := ⟨elems[i]'(by omega), by simp [show i < elems.length by omega]⟩
      obtain ⟨z, hz⟩ := this
      rw [hz, Option.bind_eq_some_iff] at h1
      obtain ⟨y, hy, hy2⟩ := h1
      exact ⟨y, hy, z, hy2⟩
    classical
    let es : List (List Value) := (List.range len).map fun i => (w.cells? 0 (a.add (i * P.cellsOf el)) (P.cellsOf el)).getD []
    have hes : ∀ i x, es[i]? = some x → i < len ∧ w.cells? 0 (a.add (i * P.cellsOf el)) (P.cellsOf el) = some x := by
      intro i x hx
      simp only [es, List.getElem?_map, Option.map_eq_some_iff] at hx
      obtain ⟨j, hj, hx⟩ := hx
      have hlt : i < len := by have := (List.getElem?_eq_some_iff.1 hj).1; simpa using this
      simp [hlt] at hj
      subst hj
      obtain ⟨y, hy, _⟩ := each i hlt
      rw [hy] at hx ⊢
      simp at hx; subst hx
      exact ⟨hlt, rfl⟩
    refine ⟨some a, len, cap, es, n, rfl, hl, hm, ⟨by simp [es], fun x hx => ?_, fun i x hx => ?_⟩, by omega, fun x hx => ?_⟩
    · obtain ⟨i, hi⟩ := List.getElem?_of_mem hx
      exact (cells_mem (hes i x hi).2).1
    · have hc' := cells_mem (hes i x hx).2
      cases x with
      | nil => simp at hc'; omega
      | cons v0 vs =>
        have hspot : a.spot = none := by
          have hlt := (hes i _ hx).1
          obtain ⟨y, hy, _⟩ := each 0 (by omega)
          have hy' := cells_mem hy
          cases y with
          | nil => simp at hy'; omega
          | cons u us =>
            have := World.cell?_spot (hy'.2 0 u rfl)
            simpa [Addr.add] using this
        obtain ⟨b, off, spot⟩ := a
        simp only at hspot
        subst hspot
        refine ⟨b, off, rfl, mem_of_cells fun j v hv => ?_⟩
        have := hc'.2 j v hv
        rwa [add0, add0] at this
    · obtain ⟨i, hi⟩ := List.getElem?_of_mem hx
      obtain ⟨y, hy, hr⟩ := each i (hes i x hi).1
      rw [(hes i x hi).2] at hy
      cases hy
      exact hr
/-- Lying still, of any length. -/
inductive RpU (g : Img) : DV → Prop
  | at (v : Value) (h : v.oneCell' = true) : RpU g (.at v)
  | sl {T sz n cap : Nat} {a : Option Addr} {es : List (List DV)} (hs : Sl g sz a n (es.map vals)) (hq : ∀ x ∈ es, ∀ d ∈ x, RpU g d) : RpU g (.sl T sz a n cap es)
theorem RpU.mono {g g' : Img} {d : DV} (h : RpU g d) (hl : Le g g') : RpU g' d := by
  induction h with
  | «at» v h => exact .at v h
  | sl hs _ ih => exact .sl (hs.mono hl) ih
@[reducible] def RpUL (g : Img) (l : List DV) : Prop := ∀ d ∈ l, RpU g d
theorem RpUL.mono {g g' : Img} {l : List DV} (h : RpUL g l) (hl : Le g g') : RpUL g' l := fun d hd => (h d hd).mono hl
theorem RpUL.nil {g : Img} : RpUL g [] := fun _ h => by cases h
theorem RpUL.cons {g : Img} {d : DV} {l : List DV} (h : RpU g d) (hl : RpUL g l) : RpUL g (d :: l) := fun x hx => (List.mem_cons.1 hx).elim (fun e => e ▸ h) (hl x)
theorem sh_slD {T sz n cap : Nat} {a : Option Addr} {es : List (List DV)} {l : List (List DV)} (h : shLL es = l) (hl : es.length = l.length) : (DV.sl T sz a n cap es).sh = slD sz l := by rw [DV.sh, h, hl]
/-- Deep values for the elements of a slice. -/
theorem chooseD {g : Img} {α : Type} {f : α → List DV} {Q : List Value → Prop} (hQ : ∀ cs, Q cs → ∃ x t, vals x = cs ∧ shL x = f t ∧ RpUL g x) : ∀ {es : List (List Value)}, (∀ x ∈ es, Q x) → ∃ (ys : List (List DV)) (l : List α), ys.map vals = es ∧ shLL ys = l.map f ∧ ∀ y ∈ ys, RpUL g y
  | [], _ => ⟨[], [], rfl, by rw [shLL]; rfl, by simp⟩
  | e :: es, h => by
    obtain ⟨x, t, h1, h2, h3⟩ := hQ e (h e (List.mem_cons_self ..))
    obtain ⟨ys, l, k1, k2, k3⟩ := chooseD hQ (es := es) fun x hx => h x (List.mem_cons_of_mem _ hx)
    exact ⟨x :: ys, t :: l, by rw [List.map_cons, h1, k1], by rw [shLL, h2, k2]; rfl, fun y hy => (List.mem_cons.1 hy).elim (fun h => h ▸ h3) (k3 y)⟩
theorem rdu_slice {m t el sz T : Nat} {α : Type} {f : α → List DV} {cs : List Value} (hu : P.underlying t = some (.slice el)) (hsz : P.cellsOf el = sz) (hc : 0 < sz) (h : RdN enc P w sp held m t cs)
    (hQ : ∀ m' cs, m' < m → RdN enc P w sp held m' el cs → ∃ x t, vals x = cs ∧ shL x = f t ∧ RpUL (imgOf w) x) :
    ∃ (a : Option Addr) (n cap : Nat) (es : List (List DV)) (l : List α), cs = [.slice a n cap] ∧ n ≤ cap ∧ cap ≤ maxLen ∧ shLL es = l.map f ∧ es.length = l.length ∧ RpU (imgOf w) (.sl T sz a n cap es) := by
  obtain ⟨a, n, cap, es, m', rfl, h1, h2, hs, hm, hr⟩ := h.slice hu (by rw [hsz]; exact hc)
  obtain ⟨ys, l, rfl, k2, k3⟩ := chooseD (Q := RdN enc P w sp held m' el) (fun cs hcs => hQ m' cs hm hcs) hr
  rw [hsz] at hs
  refine ⟨a, n, cap, ys, l, rfl, h1, h2, k2, ?_, .sl hs k3⟩
  have := congrArg List.length k2
  rw [shLL_map, List.length_map, List.length_map] at this
  exact this
end Go.Zed
