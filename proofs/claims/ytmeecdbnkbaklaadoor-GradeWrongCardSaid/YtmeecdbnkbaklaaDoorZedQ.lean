/- Tables that a row lists: what they hold. -/
import Derived.Test.YtmeecdbnkbaklaaDoorZedP
import Derived.LaidMore
namespace Go.Zed
open Go
variable {H : Type} {enc : TypeId × Value → H} {P : Program} {w : World} {sp : Nat → Bool} {held : Bool}
theorem mapM_at {α β : Type} {f : α → Option β} : ∀ {l : List α} {ys : List β}, l.mapM f = some ys → ∀ (i : Nat) (x : α) (y : β), l[i]? = some x → ys[i]? = some y → f x = some y
  | [], ys, h, i, x, y, hx, _ => by simp at hx
  | a :: l, ys, h, i, x, y, hx, hy => by
    simp only [List.mapM_cons, Option.bind_eq_bind, Option.bind_eq_some_iff] at h
    obtain ⟨z, hz, zs, hzs, he⟩ := h
    simp at he
    subst he
    cases i with
    | zero => simp at hx hy; subst hx; subst hy; exact hz
    | succ i => exact mapM_at hzs i x y (by simpa using hx) (by simpa using hy)
theorem trodArr {fuel t n el : Nat} {cs : List Value} {ds : List (DataW H)} {p : List MemPlace} (hu : P.underlying t = some (.array n el)) (h : DataW.trod enc P w 0 sp held fuel t cs = some (.agg ds, p)) :
    cs.length = P.cellsOf t ∧ ∀ i d, i < n → ds[i]? = some d → ∃ m q, DataW.trod enc P w 0 sp held m el ((cs.drop (i * P.cellsOf el)).take (P.cellsOf el)) = some (d, q) := by
  cases fuel with
  | zero => simp [DataW.trod] at h
  | succ m =>
    unfold DataW.trod at h
    rw [hu] at h
    simp only at h
    split at h
    · rename_i hl
      refine ⟨hl, fun i d hi hd => ?_⟩
      rw [Option.map_eq_some_iff] at h
      obtain ⟨ys, hy, he⟩ := h
      simp only [Prod.mk.injEq, DataW.agg.injEq] at he
      rw [← he.1, List.getElem?_map, Option.map_eq_some_iff] at hd
      obtain ⟨y, hy1, rfl⟩ := hd
      exact ⟨m, y.2, mapM_at hy i i y (by simp [hi]) hy1⟩
    · cases h
theorem trodStr {fuel t : Nat} {fs : Array Field} {cs : List Value} {ds : List (DataW H)} {p : List MemPlace} (hu : P.underlying t = some (.struct fs)) (h : DataW.trod enc P w 0 sp held fuel t cs = some (.agg ds, p)) :
    cs.length = P.cellsOf t ∧ ∀ (i : Nat) (f : Field) d, fs.toList[i]? = some f → ds[i]? = some d → ∃ m q, DataW.trod enc P w 0 sp held m f.type ((cs.drop f.offset).take (P.cellsOf f.type)) = some (d, q) := by
  cases fuel with
  | zero => simp [DataW.trod] at h
  | succ m =>
    unfold DataW.trod at h
    rw [hu] at h
    simp only at h
    split at h
    · rename_i hl
      refine ⟨hl, fun i f d hf hd => ?_⟩
      rw [Option.map_eq_some_iff] at h
      obtain ⟨ys, hy, he⟩ := h
      simp only [Prod.mk.injEq, DataW.agg.injEq] at he
      rw [← he.1, List.getElem?_map, Option.map_eq_some_iff] at hd
      obtain ⟨y, hy1, rfl⟩ := hd
      exact ⟨m, y.2, mapM_at hy i f y hf hy1⟩
    · cases h
theorem trodNilF {fuel t : Nat} {ps rs : Array TypeId} {va : Bool} {v : Value} {q : List MemPlace} (hu : P.underlying t = some (.func ps rs va)) (h : DataW.trod enc P w 0 sp held fuel t [v] = some (.nil, q)) : v = .nilFunc := by
  cases fuel with
  | zero => simp [DataW.trod] at h
  | succ m =>
    unfold DataW.trod at h
    rw [hu] at h
    cases v <;> simp at h
    rfl
theorem mem_of_var {n : String} {g : Nat} {cs : Array Value} (hg : P.globalNamed n = some g) (hv : w.var? P n = some cs) : Mem (imgOf w) g 0 cs.toList := by
  have : ∃ T fr, w.heap[g]? = some (.cells cs T fr) := by
    unfold World.var? at hv
    simp only [hg] at hv
    cases hh : w.heap[g]? with
    | none => simp [hh] at hv
    | some o =>
      cases o <;> simp_all
  obtain ⟨T, fr, hh⟩ := this
  exact ⟨cs, T, fr, hh, fun j v hv => by simpa using hv⟩
end Go.Zed
