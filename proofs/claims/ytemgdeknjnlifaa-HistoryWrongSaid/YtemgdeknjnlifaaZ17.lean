import Derived.Test.YtemgdeknjnlifaaZ16
namespace Go.Proofs.Ytemgdeknjnlifaa
open Go Go.Zed
/-! ### What holds of a tree that acts have made: plain laws -/
theorem ent_append {es es' : List En} {n : Int} {e : En} (h : ent es n = some e) : ent (es ++ es') n = some e := by
  have := ent_lt h
  unfold ent at h ⊢
  rw [if_pos this.1] at h ⊢
  rw [List.getElem?_append_left (by omega), h]
theorem ent_snoc {es : List En} {x : En} : ent (es ++ [x]) (es.length : Int) = some x := by rw [ent_nat]; simp
theorem ent_snoc_cases {es : List En} {x : En} {n : Int} {e : En} (h : ent (es ++ [x]) n = some e) : ent es n = some e ∨ (n = es.length ∧ e = x) := by
  have hb := ent_lt h
  simp at hb
  by_cases hl : n < es.length
  · obtain ⟨k, rfl⟩ : ∃ k : Nat, n = k := ⟨n.toNat, by omega⟩
    rw [ent_nat, List.getElem?_append_left (by omega)] at h
    exact .inl (by rw [ent_nat]; exact h)
  · have hn : n = (es.length : Int) := by omega
    subst hn
    rw [ent_snoc] at h
    exact .inr ⟨rfl, (Option.some.inj h).symm⟩
theorem par_append {es es' : List En} {n : Int} (h : inE es n) : par (es ++ es') n = par es n := by
  obtain ⟨e, he⟩ := ent_in h
  rw [par_of he, par_of (ent_append he)]
theorem up_append {es : List En} {x : En} (hw : Wf es) (hw' : Wf (es ++ [x])) : ∀ n : Int, n < es.length → up (es ++ [x]) n = up es n := by
  refine up_rec hw (motive := fun n => n < es.length → up (es ++ [x]) n = up es n) (fun n hn _ => by rw [up_neg hn, up_neg hn]) fun n hn ih hl => ?_
  rw [up_pos hw hn, up_pos hw' hn, par_append ⟨hn, hl⟩, ih (by have := hw.par_lt hn; omega)]
theorem led_cases : ∀ (l : List Int) (fav : Int → Option Int) (m c : Int), led fav l m = some c → fav m = some c ∨ ∃ pre post, l = pre ++ c :: m :: post
  | [], _, _, _, h => .inl h
  | [_], _, _, _, h => .inl h
  | x :: y :: l, fav, m, c, h => by
    rw [led] at h
    rcases led_cases (y :: l) _ m c h with h | ⟨pre, post, he⟩
    · by_cases hm : m = y
      · subst hm
        rw [updF, if_pos rfl] at h
        cases h
        exact .inr ⟨[], l, rfl⟩
      · rw [updF, if_neg hm] at h; exact .inl h
    · exact .inr ⟨x :: pre, post, by rw [he]; rfl⟩
/-- Of two neighbours on a way the second one is the parent of the first one. -/
theorem up_next {es : List En} (hw : Wf es) (n : Int) : ∀ pre c m post, up es n = pre ++ c :: m :: post → par es c = m := by
  refine up_rec hw (motive := fun n => ∀ pre c m post, up es n = pre ++ c :: m :: post → par es c = m) (fun n hn pre c m post h => ?_) (fun n hn ih pre c m post h => ?_) n
  · rw [up_neg hn] at h; cases pre <;> simp at h
  · rw [up_pos hw hn] at h
    cases pre with
    | nil =>
      simp only [List.nil_append, List.cons.injEq] at h
      obtain ⟨rfl, h⟩ := h
      by_cases hp : par es n < 0
      · rw [up_neg hp] at h; cases h
      · rw [up_pos hw (by omega)] at h
        exact (List.cons.inj h).1
    | cons y pre =>
      simp only [List.cons_append, List.cons.injEq] at h
      exact ih pre c m post h.2
def lett (k : Nat) : ByteArray := { data := #[UInt8.ofNat (97 + k)] }
structure Act (s : St) (i : Nat) : Prop where
  ok : s.Ok
  few : s.es.length ≤ i + 1
  tick : ∀ e ∈ s.es, 0 ≤ e.tick ∧ e.tick ≤ i
  lt : ∀ e ∈ s.es, ∃ k, k < 6 ∧ e.st = lett k
  note : ∀ e ∈ s.es, e.note = { data := #[] }
  lead : Leads s.fav (up s.es s.now)
  tree : ∀ m c, s.fav m = some c → inE s.es c ∧ par s.es c = m ∧ 0 ≤ m
  ord : ∀ n e q, ent s.es n = some e → ent s.es e.p = some q → ¬ q.st = e.st ∧ q.tick ≤ e.tick
  root : ent s.es 0 = some ⟨-1, 0, { data := #[] }, lett 0⟩
theorem Act.next {s : St} {i : Nat} (h : Act s i) : Act s (i + 1) :=
  ⟨h.ok, by have := h.few; omega, fun e he => by have := h.tick e he; omega, h.lt, h.note, h.lead, h.tree, h.ord, h.root⟩
theorem Act.mono {s : St} {i j : Nat} (h : Act s i) (hij : i ≤ j) : Act s j :=
  ⟨h.ok, by have := h.few; omega, fun e he => by have := h.tick e he; omega, h.lt, h.note, h.lead, h.tree, h.ord, h.root⟩
theorem led_tree {es : List En} {fav : Int → Option Int} (hw : Wf es) (h : ∀ m c, fav m = some c → inE es c ∧ par es c = m ∧ 0 ≤ m) {n : Int} (hn : inE es n) :
    ∀ m c, led fav (up es n) m = some c → inE es c ∧ par es c = m ∧ 0 ≤ m := by
  intro m c hc
  rcases led_cases _ _ _ _ hc with hc | ⟨pre, post, he⟩
  · exact h m c hc
  · have h1 := up_le hw n c (by rw [he]; simp)
    have h2 := up_le hw n m (by rw [he]; simp)
    exact ⟨⟨h1.1, by have := hn.2; omega⟩, up_next hw n pre c m post he, h2.1⟩
theorem Act.goT {s : St} {i : Nat} (h : Act s i) (n : Int) : Act (s.goT n) i := by
  by_cases hin : inE s.es n
  · refine ⟨h.ok.goT n, h.few, h.tick, h.lt, h.note, ?_, ?_, h.ord, h.root⟩
    · simp only [St.goT, stN, if_pos hin]
      exact leads_led (up_nodup h.ok.wf n)
    · simp only [St.goT, if_pos hin]
      exact led_tree h.ok.wf h.tree hin
  · have : s.goT n = s := by simp only [St.goT, stN, if_neg hin]
    rw [this]; exact h
theorem Act.stp {s : St} {i : Nat} (h : Act s i) {n : Int} (hn : inE s.es n → Leads s.fav (up s.es n)) : Act (s.stp n) i := by
  refine ⟨h.ok.stp n, h.few, h.tick, h.lt, h.note, ?_, h.tree, h.ord, h.root⟩
  simp only [St.stp, stN]
  by_cases hin : inE s.es n
  · rw [if_pos hin]; exact hn hin
  · rw [if_neg hin]; exact h.lead
theorem St.Ok.par_now {s : St} (h : s.Ok) : par s.es s.now = s.cur.p := par_of h.cur
theorem Leads.tail {fav : Int → Option Int} {x : Int} {l : List Int} (h : Leads fav (x :: l)) : Leads fav l := by
  cases l with
  | nil => trivial
  | cons y l => exact h.2
theorem Act.undo {s : St} {i : Nat} (h : Act s i) : Act (s.stp s.cur.p) i := by
  refine h.stp fun _ => ?_
  have := h.lead
  rw [up_pos h.ok.wf h.ok.now.1, h.ok.par_now] at this
  exact this.tail
theorem Act.redo {s : St} {i : Nat} (h : Act s i) : Act (s.stp s.rp) i := by
  refine h.stp fun hin => ?_
  cases hf : s.fav s.now with
  | none =>
    have : s.rp = -1 := by rw [St.rp, hf]; rfl
    rw [this] at hin
    have := hin.1; omega
  | some c =>
    have hc : s.rp = c := by rw [St.rp, hf]; rfl
    obtain ⟨h1, h2, h3⟩ := h.tree _ _ hf
    rw [hc, up_pos h.ok.wf h1.1, h2, up_pos h.ok.wf h.ok.now.1]
    refine ⟨hf, ?_⟩
    have := h.lead
    rwa [up_pos h.ok.wf h.ok.now.1] at this
theorem Act.doT {s : St} {i : Nat} (h : Act s i) {st note : ByteArray} {tick : Int} (hi : i < 1000) (ht : 0 ≤ tick ∧ tick ≤ (i + 1 : Nat)) (hn : note = { data := #[] }) (hl : ∃ k, k < 6 ∧ st = lett k) : Act (s.doT st note tick) (i + 1) := by
  by_cases hc : s.doC st note tick = 0
  · rw [← (St.do_good hc).1]
    have hfew := h.few
    have hok : (s.put st note tick).Ok := by
      have := h.ok.doT st note tick
      rwa [← (St.do_good hc).1] at this
    have hnow := h.ok.now
    have hcs : ¬ st = s.cur.st ∧ ¬ tick < s.cur.tick := by
      rw [St.doC] at hc
      split at hc
      · cases hc
      · split at hc
        · cases hc
        · split at hc
          · cases hc
          · exact ⟨by assumption, by assumption⟩
    have hwf := hok.wf
    have hinl : inE (s.es ++ [⟨s.now, tick, note, st⟩]) (s.es.length : Int) := ⟨by omega, by simp; omega⟩
    refine ⟨hok, by simp [St.put]; omega, ?_, ?_, ?_, leads_led (up_nodup hwf _), led_tree hwf ?_ hinl, ?_, ent_append h.root⟩
    · intro e he
      rcases List.mem_append.1 he with he | he
      · have := h.tick e he; omega
      · obtain rfl := List.mem_singleton.1 he; exact ht
    · intro e he
      rcases List.mem_append.1 he with he | he
      · exact h.lt e he
      · obtain rfl := List.mem_singleton.1 he; exact hl
    · intro e he
      rcases List.mem_append.1 he with he | he
      · exact h.note e he
      · obtain rfl := List.mem_singleton.1 he; exact hn
    · intro m c hmc
      obtain ⟨h1, h2, h3⟩ := h.tree m c hmc
      refine ⟨⟨h1.1, by have := h1.2; simp [St.put]; omega⟩, ?_, h3⟩
      show par (s.es ++ _) c = m
      rw [par_append h1, h2]
    · intro n e q he hq
      rcases ent_snoc_cases he with he | ⟨rfl, rfl⟩
      · rcases ent_snoc_cases hq with hq | ⟨hp, rfl⟩
        · exact h.ord n e q he hq
        · have h1 := h.ok.wf.lt he; have h2 := ent_lt he; omega
      · simp only at hq
        rcases ent_snoc_cases hq with hq | ⟨hp, rfl⟩
        · rw [h.ok.cur] at hq
          cases hq
          exact ⟨fun e => hcs.1 e.symm, by have := hcs.2; simp only; omega⟩
        · have h5 := h.ok.now
          have h6 : s.now = (s.es.length : Int) := hp
          omega
  · rw [← (St.do_bad rfl hc).1]; exact h.next
end Go.Proofs.Ytemgdeknjnlifaa
