import Derived.Test.YtemgdeknjnlifaaZ1
namespace Go.Proofs.Ytemgdeknjnlifaa
open Go Go.Zed
/-! ### Parents, ways, favourites: plain laws -/
/-- The entry of a number. -/
def ent (es : List En) (n : Int) : Option En := if 0 ≤ n then es[n.toNat]? else none
def par (es : List En) (n : Int) : Int := match ent es n with | some e => e.p | none => -1
structure Wf (es : List En) : Prop where
  ne : 0 < es.length
  root : ∀ e, es[0]? = some e → e.p = -1
  above : ∀ (i : Nat) e, es[i]? = some e → 0 < i → 0 ≤ e.p ∧ e.p < i
theorem ent_nat (es : List En) (i : Nat) : ent es (i : Int) = es[i]? := by simp [ent]
theorem ent_in {es : List En} {n : Int} (h : 0 ≤ n ∧ n < es.length) : ∃ e, ent es n = some e := by
  obtain ⟨k, rfl⟩ : ∃ k : Nat, n = k := ⟨n.toNat, by omega⟩
  rw [ent_nat]; exact ⟨_, List.getElem?_eq_getElem (by omega)⟩
theorem ent_lt {es : List En} {n : Int} {e : En} (h : ent es n = some e) : 0 ≤ n ∧ n < es.length := by
  unfold ent at h
  by_cases h0 : 0 ≤ n
  · rw [if_pos h0] at h
    have := (List.getElem?_eq_some_iff.1 h).1
    omega
  · rw [if_neg h0] at h; cases h
theorem ent_mem {es : List En} {n : Int} {e : En} (h : ent es n = some e) : e ∈ es := by
  unfold ent at h
  by_cases h0 : 0 ≤ n
  · rw [if_pos h0] at h; exact List.mem_of_getElem? h
  · rw [if_neg h0] at h; cases h
theorem par_of {es : List En} {n : Int} {e : En} (h : ent es n = some e) : par es n = e.p := by rw [par, h]
theorem Wf.lt {es : List En} (h : Wf es) {n : Int} {e : En} (he : ent es n = some e) : e.p < n ∧ -1 ≤ e.p ∧ (e.p = -1 ↔ n = 0) := by
  have hb := ent_lt he
  obtain ⟨k, rfl⟩ : ∃ k : Nat, n = k := ⟨n.toNat, by omega⟩
  rw [ent_nat] at he
  rcases Nat.eq_zero_or_pos k with rfl | hk
  · have := h.root e he; omega
  · have := h.above k e he hk; omega
theorem Wf.mem {es : List En} (h : Wf es) {e : En} (he : e ∈ es) : -1 ≤ e.p ∧ e.p < es.length := by
  obtain ⟨i, hi⟩ := List.mem_iff_getElem?.1 he
  have := h.lt (n := (i : Int)) (by rw [ent_nat]; exact hi)
  have := (List.getElem?_eq_some_iff.1 hi).1
  omega
theorem Wf.par_lt {es : List En} (h : Wf es) {n : Int} (h0 : 0 ≤ n) : par es n < n := by
  cases he : ent es n with
  | none => rw [par, he]; simp only; omega
  | some e => rw [par_of he]; exact (h.lt he).1
/-- An entry, its parent, and so on, up to the root. -/
def ups (p : Int → Int) : Nat → Int → List Int
  | 0, _ => []
  | k + 1, n => if n < 0 then [] else n :: ups p k (p n)
def up (es : List En) (n : Int) : List Int := ups (par es) (n + 1).toNat n
theorem ups_more {p : Int → Int} (hp : ∀ n, 0 ≤ n → p n < n) : ∀ (k j : Nat) (n : Int), n < k → n < j → ups p k n = ups p j n
  | 0, 0, _, _, _ => rfl
  | 0, j + 1, n, h, _ => by rw [ups, ups, if_pos (by omega)]
  | k + 1, 0, n, _, h => by rw [ups, ups, if_pos (by omega)]
  | k + 1, j + 1, n, h, h' => by
    rw [ups, ups]
    by_cases h0 : n < 0
    · rw [if_pos h0, if_pos h0]
    · rw [if_neg h0, if_neg h0, ups_more hp k j (p n) (by have := hp n (by omega); omega) (by have := hp n (by omega); omega)]
theorem up_neg {es : List En} {n : Int} (h : n < 0) : up es n = [] := by
  rw [up, show (n + 1).toNat = 0 by omega, ups]
theorem up_pos {es : List En} (hw : Wf es) {n : Int} (h : 0 ≤ n) : up es n = n :: up es (par es n) := by
  rw [up, show (n + 1).toNat = n.toNat + 1 by omega, ups, if_neg (by omega), up]
  have := hw.par_lt h
  rw [ups_more (fun m hm => hw.par_lt hm) n.toNat (par es n + 1).toNat (par es n) (by omega) (by omega)]
/-- Induction along a way. -/
theorem up_rec {es : List En} (hw : Wf es) {motive : Int → Prop} (neg : ∀ n, n < 0 → motive n) (pos : ∀ n, 0 ≤ n → motive (par es n) → motive n) (n : Int) : motive n := by
  suffices ∀ (k : Nat) (n : Int), n < k → motive n from this (n + 1).toNat n (by omega)
  intro k
  induction k with
  | zero => intro n hn; exact neg n (by omega)
  | succ k ih =>
    intro n hn
    by_cases h : n < 0
    · exact neg n h
    · refine pos n (by omega) (ih _ ?_)
      have := hw.par_lt (n := n) (by omega)
      omega
theorem up_le {es : List En} (hw : Wf es) (n : Int) : ∀ x ∈ up es n, 0 ≤ x ∧ x ≤ n := by
  refine up_rec hw (motive := fun n => ∀ x ∈ up es n, 0 ≤ x ∧ x ≤ n) (fun n hn x hx => by rw [up_neg hn] at hx; cases hx) (fun n hn ih x hx => ?_) n
  rw [up_pos hw hn] at hx
  rcases List.mem_cons.1 hx with rfl | hx
  · omega
  · have := ih x hx; have := hw.par_lt hn; omega
/-- What all favourites on a way lead to. -/
def led (fav : Int → Option Int) : List Int → (Int → Option Int)
  | x :: y :: l => led (updF fav y x) (y :: l)
  | _ => fav
theorem led_snoc : ∀ (l : List Int) (fav : Int → Option Int) (x y : Int), led fav (l ++ [x, y]) = updF (led fav (l ++ [x])) y x
  | [], fav, x, y => rfl
  | [a], fav, x, y => rfl
  | a :: b :: l, fav, x, y => by
    have := led_snoc (b :: l) (updF fav b a) x y
    simpa [led] using this
theorem led_other : ∀ (l : List Int) (fav : Int → Option Int) (n : Int), n ∉ l.tail → led fav l n = fav n
  | [], _, _, _ => rfl
  | [_], _, _, _ => rfl
  | x :: y :: l, fav, n, h => by
    simp only [List.tail_cons, List.mem_cons, not_or] at h
    rw [led, led_other (y :: l) _ n (by simpa using h.2), updF, if_neg h.1]
/-- Each of a list is the favourite of the next one. -/
def Leads (fav : Int → Option Int) : List Int → Prop
  | x :: y :: l => fav y = some x ∧ Leads fav (y :: l)
  | _ => True
theorem Leads.congr {fav fav' : Int → Option Int} : ∀ {l : List Int}, (∀ n ∈ l.tail, fav' n = fav n) → Leads fav l → Leads fav' l
  | [], _, _ => trivial
  | [_], _, _ => trivial
  | x :: y :: l, h, hl => by
    refine ⟨by rw [h y (by simp)]; exact hl.1, Leads.congr (fun n hn => h n (by simp at hn ⊢; exact .inr hn)) hl.2⟩
theorem leads_led : ∀ {l : List Int} {fav : Int → Option Int}, l.Nodup → Leads (led fav l) l
  | [], _, _ => trivial
  | [_], _, _ => trivial
  | x :: y :: l, fav, h => by
    simp only [List.nodup_cons, List.mem_cons, not_or] at h
    refine ⟨?_, ?_⟩
    · rw [led, led_other (y :: l) _ y (by simpa using h.2.1), updF, if_pos rfl]
    · rw [led]; exact leads_led (by simpa using h.2)
theorem up_nodup {es : List En} (hw : Wf es) (n : Int) : (up es n).Nodup := by
  refine up_rec hw (motive := fun n => (up es n).Nodup) (fun n hn => by rw [up_neg hn]; exact List.nodup_nil) (fun n hn ih => ?_) n
  rw [up_pos hw hn, List.nodup_cons]
  refine ⟨fun hm => ?_, ih⟩
  have := up_le hw _ _ hm
  have := hw.par_lt hn
  omega
end Go.Proofs.Ytemgdeknjnlifaa
