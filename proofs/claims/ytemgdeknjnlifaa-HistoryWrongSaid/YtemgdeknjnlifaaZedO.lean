/- What a reading says of the values, type by type. -/
import Derived.Test.YtemgdeknjnlifaaZedK
namespace Go.Zed
open Go
variable {H : Type} {enc : TypeId × Value → H} {P : Program} {w : World} {sp : Nat → Bool} {held : Bool}

/-- The cells read as a value of the type. -/
def Rd (enc : TypeId × Value → H) (P : Program) (w : World) (sp : Nat → Bool) (held : Bool) (t : Nat) (cs : List Value) : Prop := ∃ fuel x, DataW.trod enc P w 0 sp held fuel t cs = some x

theorem mapM_all {α β : Type} {f : α → Option β} : ∀ {l : List α} {ys : List β}, l.mapM f = some ys → ∀ x ∈ l, ∃ y, f x = some y
  | [], _, _, x, hx => by cases hx
  | a :: l, ys, h, x, hx => by
    simp only [List.mapM_cons, Option.bind_eq_bind, Option.bind_eq_some_iff] at h
    obtain ⟨y, hy, zs, hz, _⟩ := h
    rcases List.mem_cons.1 hx with rfl | hx
    · exact ⟨y, hy⟩
    · exact mapM_all hz x hx

theorem Rd.int {t : Nat} {k : IntKind} {cs : List Value} (hu : P.underlying t = some (.int k)) (h : Rd enc P w sp held t cs) : ∃ n, cs = [.int k n] ∧ (Lit.int k n).wf = true := by
  obtain ⟨fuel, x, h⟩ := h
  cases fuel with
  | zero => simp [DataW.trod] at h
  | succ m =>
    unfold DataW.trod at h
    rw [hu] at h
    split at h <;> simp_all
theorem Rd.bool {t : Nat} {cs : List Value} (hu : P.underlying t = some .bool) (h : Rd enc P w sp held t cs) : ∃ b, cs = [.bool b] := by
  obtain ⟨fuel, x, h⟩ := h
  cases fuel with
  | zero => simp [DataW.trod] at h
  | succ m =>
    unfold DataW.trod at h
    rw [hu] at h
    split at h <;> simp_all
theorem Rd.string {t : Nat} {cs : List Value} (hu : P.underlying t = some .string) (h : Rd enc P w sp held t cs) : ∃ s, cs = [.string s] ∧ s.size ≤ maxLen := by
  obtain ⟨fuel, x, h⟩ := h
  cases fuel with
  | zero => simp [DataW.trod] at h
  | succ m =>
    unfold DataW.trod at h
    rw [hu] at h
    split at h <;> simp_all
theorem Rd.struct {t : Nat} {fs : Array Field} {cs : List Value} (hu : P.underlying t = some (.struct fs)) (h : Rd enc P w sp held t cs) :
    cs.length = P.cellsOf t ∧ ∀ f ∈ fs.toList, Rd enc P w sp held f.type ((cs.drop f.offset).take (P.cellsOf f.type)) := by
  obtain ⟨fuel, x, h⟩ := h
  cases fuel with
  | zero => simp [DataW.trod] at h
  | succ m =>
    unfold DataW.trod at h
    rw [hu] at h
    simp only at h
    split at h
    · rename_i hl
      refine ⟨hl, fun f hf => ?_⟩
      rw [Option.map_eq_some_iff] at h
      obtain ⟨ys, hy, _⟩ := h
      obtain ⟨y, hy⟩ := mapM_all hy f hf
      exact ⟨m, y, hy⟩
    · cases h
theorem Rd.array {t n el : Nat} {cs : List Value} (hu : P.underlying t = some (.array n el)) (h : Rd enc P w sp held t cs) :
    cs.length = P.cellsOf t ∧ ∀ i, i < n → Rd enc P w sp held el ((cs.drop (i * P.cellsOf el)).take (P.cellsOf el)) := by
  obtain ⟨fuel, x, h⟩ := h
  cases fuel with
  | zero => simp [DataW.trod] at h
  | succ m =>
    unfold DataW.trod at h
    rw [hu] at h
    simp only at h
    split at h
    · rename_i hl
      refine ⟨hl, fun i hi => ?_⟩
      rw [Option.map_eq_some_iff] at h
      obtain ⟨ys, hy, _⟩ := h
      obtain ⟨y, hy⟩ := mapM_all hy i (List.mem_range.2 hi)
      exact ⟨m, y, hy⟩
    · cases h
theorem cells_mem {a : Addr} {n : Nat} {cs : List Value} (h : w.cells? 0 a n = some cs) : cs.length = n ∧ ∀ j v, cs[j]? = some v → w.cell? (a.add j) = some v := by
  unfold World.cells? at h
  split at h
  · have key : ∀ {l : List Nat} {ys : List Value}, l.mapM (fun i => w.cell? (a.add i)) = some ys → ys.length = l.length ∧ ∀ (j : Nat) i v, l[j]? = some i → ys[j]? = some v → w.cell? (a.add i) = some v := by
      intro l
      induction l with
      | nil => intro ys h; simp at h; subst h; simp
      | cons x l ih =>
        intro ys h
        simp only [List.mapM_cons, Option.bind_eq_bind, Option.bind_eq_some_iff] at h
        obtain ⟨y, hy, zs, hz, he⟩ := h
        simp at he
        subst he
        have := ih hz
        refine ⟨by simp [this.1], fun j i v hi hv => ?_⟩
        cases j with
        | zero => simp at hi hv; subst hi; subst hv; exact hy
        | succ j => exact this.2 j i v (by simpa using hi) (by simpa using hv)
    have := key h
    refine ⟨by simpa using this.1, fun j v hv => ?_⟩
    have hlt : j < n := by have := (List.getElem?_eq_some_iff.1 hv).1; simp at *; omega
    exact this.2 j j v (by simp [hlt]) hv
  · cases h
theorem mem_of_cells {b off : Nat} {v0 : Value} {vs : List Value} (h : ∀ j v, (v0 :: vs)[j]? = some v → w.cell? ⟨b, off + j, none⟩ = some v) : Mem (imgOf w) b off (v0 :: vs) := by
  have h0 := h 0 v0 rfl
  have key : ∃ cs T fr, w.heap[b]? = some (.cells cs T fr) := by
    unfold World.cell? at h0
    split at h0
    · rename_i cs T fr hh
      exact ⟨_, _, _, hh⟩
    all_goals cases h0
  obtain ⟨cs, T, fr, hh⟩ := key
  refine ⟨cs, T, fr, hh, fun j v hv => ?_⟩
  have := h j v hv
  simpa [World.cell?, hh] using this
theorem Rd.slice {t el : Nat} {cs : List Value} (hu : P.underlying t = some (.slice el)) (hc : 0 < P.cellsOf el) (h : Rd enc P w sp held t cs) :
    ∃ a n cap es, cs = [.slice a n cap] ∧ n ≤ cap ∧ cap ≤ maxLen ∧ Sl (imgOf w) (P.cellsOf el) a n es ∧ ∀ x ∈ es, Rd enc P w sp held el x := by
  obtain ⟨fuel, x, h⟩ := h
  rcases DataW.trod_slice hu h with ⟨rfl, _⟩ | ⟨a, len, cap, elems, rest, n, _, rfl, _, _, hl, hm, hlen, hel, _⟩
  · exact ⟨none, 0, 0, [], rfl, Nat.le_refl _, Nat.zero_le _, .nil, by simp⟩
  · have each : ∀ i, i < len → ∃ y, w.cells? 0 (a.add (i * P.cellsOf el)) (P.cellsOf el) = some y ∧ Rd enc P w sp held el y := by
      intro i hi
      have h1 := hel i hi
      have : ∃ z, elems[i]? = some z := ⟨elems[i]'(by omega), by simp [show i < elems.length by omega]⟩
      obtain ⟨z, hz⟩ := this
      rw [hz, Option.bind_eq_some_iff] at h1
      obtain ⟨y, hy, hy2⟩ := h1
      exact ⟨y, hy, n, z, hy2⟩
    classical
    let es : List (List Value) := (List.range len).map fun i => (w.cells? 0 (a.add (i * P.cellsOf el)) (P.cellsOf el)).getD []
    have hes : ∀ i x, es[i]? = some x → i < len ∧ w.cells? 0 (a.add (i * P.cellsOf el)) (P.cellsOf el) = some x := by
      intro i x hx
      simp only [es, List.getElem?_map, Option.map_eq_some_iff] at hx
      obtain ⟨j, hj, hx⟩ := hx
      have hlt : i < len := by have := (List.getElem?_eq_some_iff.1 hj).1; simpa using this
      simp [hlt] at hj
      subst hj
      obtain ⟨y, hy, _⟩ := each i hlt
      rw [hy] at hx ⊢
      simp at hx; subst hx
      exact ⟨hlt, rfl⟩
    refine ⟨some a, len, cap, es, rfl, hl, hm, ⟨by simp [es], fun x hx => ?_, fun i x hx => ?_⟩, fun x hx => ?_⟩
    · obtain ⟨i, hi⟩ := List.getElem?_of_mem hx
      exact (cells_mem (hes i x hi).2).1
    · have hc' := cells_mem (hes i x hx).2
      cases x with
      | nil => simp at hc'; omega
      | cons v0 vs =>
        have hspot : a.spot = none := by
          have hlt := (hes i _ hx).1
          obtain ⟨y, hy, _⟩ := each 0 (by omega)
          have hy' := cells_mem hy
          cases y with
          | nil => simp at hy'; omega
          | cons u us =>
            have := World.cell?_spot (hy'.2 0 u rfl)
            simpa [Addr.add] using this
        obtain ⟨b, off, spot⟩ := a
        simp only at hspot
        subst hspot
        refine ⟨b, off, rfl, mem_of_cells fun j v hv => ?_⟩
        have := hc'.2 j v hv
        rwa [add0, add0] at this
    · obtain ⟨i, hi⟩ := List.getElem?_of_mem hx
      obtain ⟨y, hy, hr⟩ := each i (hes i x hi).1
      rw [(hes i x hi).2] at hy
      cases hy
      exact hr
end Go.Zed
