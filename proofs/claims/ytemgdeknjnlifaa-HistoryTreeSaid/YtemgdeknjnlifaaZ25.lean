import Derived.Test.YtemgdeknjnlifaaZ14
namespace Go.Proofs.Ytemgdeknjnlifaa
open Go Go.Zed
/-! ### The way between two entries: plain laws -/
theorem btw_mt (es : List En) (u v : Int) : btw es u v = (mt es u v).1 ++ (mt es u v).2.1 :: (mt es u v).2.2.reverse := rfl
theorem btw_same {es : List En} {u : Int} (hu : 0 ≤ u) : btw es u u = [u] := by rw [btw_mt, mt_same hu]; rfl
theorem btw_left {es : List En} (hw : Wf es) {u v : Int} (hu : inE es u) (hv : inE es v) (h : v < u) : btw es u v = u :: btw es (par es u) v := by
  rw [btw_mt, mt_left hw hu hv h, btw_mt]; rfl
theorem btw_right {es : List En} (hw : Wf es) {u v : Int} (hu : inE es u) (hv : inE es v) (h : u < v) : btw es u v = btw es u (par es v) ++ [v] := by
  rw [btw_mt, mt_right hw hu hv h, btw_mt]; simp
theorem btw_rec {es : List En} (hw : Wf es) {motive : Int → Int → Prop} (same : ∀ u, inE es u → motive u u)
    (left : ∀ u v, inE es u → inE es v → v < u → inE es (par es u) → motive (par es u) v → motive u v)
    (right : ∀ u v, inE es u → inE es v → u < v → inE es (par es v) → motive u (par es v) → motive u v) (u v : Int) (hu : inE es u) (hv : inE es v) : motive u v := by
  suffices ∀ (k : Nat) (u v : Int), inE es u → inE es v → u + v < k → motive u v from this (u + v + 1).toNat u v hu hv (by omega)
  intro k
  induction k with
  | zero => intro u v hu hv h; have := hu.1; have := hv.1; omega
  | succ k ih =>
    intro u v hu hv h
    have hu0 := hu.1
    have hv0 := hv.1
    rcases Int.lt_trichotomy u v with hl | rfl | hl
    · have hp := hw.par_in hv (by omega)
      have := hw.par_lt hv0
      exact right u v hu hv hl hp (ih u _ hu hp (by omega))
    · exact same u hu
    · have hp := hw.par_in hu (by omega)
      have := hw.par_lt hu0
      exact left u v hu hv hl hp (ih _ v hp hv (by omega))
theorem btw_head {es : List En} (hw : Wf es) : ∀ u v, inE es u → inE es v → ∃ l, btw es u v = u :: l := by
  refine btw_rec hw (fun u hu => ⟨[], btw_same hu.1⟩) (fun u v hu hv h _ _ => ⟨_, btw_left hw hu hv h⟩) (fun u v hu hv h _ ih => ?_)
  obtain ⟨l, hl⟩ := ih
  exact ⟨l ++ [v], by rw [btw_right hw hu hv h, hl]; rfl⟩
theorem btw_last {es : List En} (hw : Wf es) : ∀ u v, inE es u → inE es v → ∃ l, btw es u v = l ++ [v] := by
  refine btw_rec hw (fun u hu => ⟨[], btw_same hu.1⟩) (fun u v hu hv h _ ih => ?_) (fun u v hu hv h _ _ => ⟨_, btw_right hw hu hv h⟩)
  obtain ⟨l, hl⟩ := ih
  exact ⟨u :: l, by rw [btw_left hw hu hv h, hl]; rfl⟩
theorem btw_rev {es : List En} (hw : Wf es) : ∀ u v, inE es u → inE es v → btw es v u = (btw es u v).reverse := by
  refine btw_rec hw (fun u hu => by rw [btw_same hu.1]; rfl) (fun u v hu hv h _ ih => ?_) (fun u v hu hv h _ ih => ?_)
  · rw [btw_right hw hv hu h, btw_left hw hu hv h, ih]; simp
  · rw [btw_left hw hv hu h, btw_right hw hu hv h, ih]; simp
theorem btw_root {es : List En} (hw : Wf es) (h0 : inE es 0) : ∀ x, inE es x → btw es 0 x = (up es x).reverse := by
  refine up_rec hw (motive := fun x => inE es x → btw es 0 x = (up es x).reverse) (fun n hn h => absurd h.1 (by omega)) fun n hn ih h => ?_
  rcases Int.lt_or_le 0 n with hl | hl
  · have hp := hw.par_in h hl
    rw [btw_right hw h0 h hl, ih hp, up_pos hw hn]; simp
  · obtain rfl : n = 0 := by omega
    have hp : par es 0 < 0 := hw.par_lt (by omega)
    rw [btw_same (by omega), up_pos hw (by omega), up_neg hp]; rfl
theorem btw_mem {es : List En} (hw : Wf es) : ∀ u v, inE es u → inE es v → ∀ w ∈ btw es u v, 0 ≤ w ∧ (w ≤ u ∨ w ≤ v) := by
  refine btw_rec hw (fun u hu w h => ?_) (fun u v hu hv h hp ih w hw' => ?_) (fun u v hu hv h hp ih w hw' => ?_)
  · rw [btw_same hu.1] at h; simp at h; have := hu.1; omega
  · rw [btw_left hw hu hv h] at hw'
    have h0 := hu.1
    rcases List.mem_cons.1 hw' with rfl | hw'
    · omega
    · have := ih w hw'; have := hw.par_lt h0; omega
  · rw [btw_right hw hu hv h] at hw'
    have h0 := hv.1
    rcases List.mem_append.1 hw' with hw' | hw'
    · have := ih w hw'; have := hw.par_lt h0; omega
    · simp at hw'; omega
theorem btw_in {es : List En} (hw : Wf es) {u v : Int} (hu : inE es u) (hv : inE es v) : ∀ w ∈ btw es u v, inE es w := fun w h => by
  have h1 := btw_mem hw u v hu hv w h
  have h2 := hu.2
  have h3 := hv.2
  exact ⟨h1.1, by omega⟩
theorem btw_nodup {es : List En} (hw : Wf es) : ∀ u v, inE es u → inE es v → (btw es u v).Nodup := by
  refine btw_rec hw (fun u hu => by rw [btw_same hu.1]; simp) (fun u v hu hv h hp ih => ?_) (fun u v hu hv h hp ih => ?_)
  · rw [btw_left hw hu hv h, List.nodup_cons]
    refine ⟨fun hm => ?_, ih⟩
    have := btw_mem hw _ v hp hv u hm
    have := hw.par_lt hu.1
    omega
  · rw [btw_right hw hu hv h, List.nodup_append]
    refine ⟨ih, by simp, fun a ha b hb => ?_⟩
    simp at hb
    subst hb
    have := btw_mem hw u _ hu hp a ha
    have := hw.par_lt hv.1
    omega
theorem nodup_len : ∀ {n : Nat} {l : List Nat}, l.Nodup → (∀ x ∈ l, x < n) → l.length ≤ n
  | 0, [], _, _ => Nat.le_refl _
  | 0, x :: l, _, h => by have := h x (List.mem_cons_self ..); omega
  | n + 1, l, hn, h => by
    have h1 := nodup_len (n := n) (l := l.erase n) (hn.erase n) fun x hx => by
      have h2 := (List.Nodup.mem_erase_iff hn).1 hx
      have := h x h2.2
      have := h2.1
      omega
    have h3 := List.length_erase (a := n) (l := l)
    split at h3 <;> omega
theorem btw_len {es : List En} (hw : Wf es) {u v : Int} (hu : inE es u) (hv : inE es v) : (btw es u v).length ≤ es.length := by
  have h1 := btw_nodup hw u v hu hv
  have h2 := btw_in hw hu hv
  have h3 : ((btw es u v).map Int.toNat).Nodup := by
    rw [List.Nodup, List.pairwise_map]
    exact List.Pairwise.imp_of_mem (fun {a b} ha hb hab e => hab (by have := (h2 a ha).1; have := (h2 b hb).1; omega)) h1
  have h4 := nodup_len h3 (n := es.length) fun q hq => by
    obtain ⟨w, hw, rfl⟩ := List.mem_map.1 hq
    have := (h2 w hw).1; have := (h2 w hw).2
    omega
  simpa using h4
/-- Neighbours are parent and child. -/
theorem btw_next {es : List En} (hw : Wf es) : ∀ u v, inE es u → inE es v → ∀ (k : Nat) a b, (btw es u v)[k]? = some a → (btw es u v)[k + 1]? = some b → par es a = b ∨ par es b = a := by
  refine btw_rec hw (fun u hu k a b h1 h2 => ?_) (fun u v hu hv h hp ih k a b h1 h2 => ?_) (fun u v hu hv h hp ih k a b h1 h2 => ?_)
  · rw [btw_same hu.1] at h2; simp at h2
  · rw [btw_left hw hu hv h] at h1 h2
    cases k with
    | zero =>
      obtain ⟨l, hl⟩ := btw_head hw _ v hp hv
      rw [hl] at h2
      simp at h1 h2
      exact .inl (by rw [← h1, h2])
    | succ k => exact ih k a b (by simpa using h1) (by simpa using h2)
  · rw [btw_right hw hu hv h] at h1 h2
    by_cases hk : k + 1 < (btw es u (par es v)).length
    · rw [List.getElem?_append_left hk] at h2
      rw [List.getElem?_append_left (by omega)] at h1
      exact ih k a b h1 h2
    · have hlt := (List.getElem?_eq_some_iff.1 h2).1
      simp at hlt
      obtain ⟨l, hl⟩ := btw_last hw u _ hu hp
      have hll : (btw es u (par es v)).length = l.length + 1 := by rw [hl]; simp
      have hk2 : k = l.length := by omega
      subst hk2
      rw [hl] at h1 h2
      simp at h1 h2
      exact .inr (by rw [← h2, h1])
theorem btw_lip {es : List En} (hw : Wf es) {a : Int} (ha : inE es a) (h0 : 0 < a) : ∀ w, inE es w → (btw es a w).length ≤ (btw es (par es a) w).length + 1 ∧ (btw es (par es a) w).length ≤ (btw es a w).length + 1 := by
  have hp := hw.par_in ha h0
  have hl := hw.par_lt ha.1
  refine up_rec hw (motive := fun w => inE es w → _) (fun n hn h => absurd h.1 (by omega)) fun w hw0 ih h => ?_
  rcases Int.lt_trichotomy w a with hlt | rfl | hlt
  · rw [btw_left hw ha h hlt]; simp; omega
  · rw [btw_same hw0, btw_right hw hp h hl, btw_same hp.1]; simp
  · have hpw := hw.par_in h (by omega)
    rw [btw_right hw ha h hlt, btw_right hw hp h (by omega)]
    have := ih hpw
    simp; omega
/-- No detour is shorter. -/
theorem btw_tri {es : List En} (hw : Wf es) {y : Int} (hy : inE es y) : ∀ x z, inE es x → inE es z → (btw es x y).length + 1 ≤ (btw es x z).length + (btw es z y).length := by
  refine btw_rec hw (fun u hu => by rw [btw_same hu.1]; simp; omega) (fun u v hu hv h hp ih => ?_) (fun u v hu hv h hp ih => ?_)
  · have h0 := hv.1
    have := (btw_lip hw hu (by omega) y hy).1
    rw [btw_left hw hu hv h]; simp; omega
  · have h0 := hu.1
    have := (btw_lip hw hv (by omega) y hy).2
    rw [btw_right hw hu hv h]; simp; omega
end Go.Proofs.Ytemgdeknjnlifaa
