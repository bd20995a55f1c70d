/- A region that draws its order: what is quiet may be taken first; what has an effect is taken when all that is left hangs on it. -/
import Derived.Test.YtemgdeknjnlifaaZedE
import Derived.Orders
namespace Go.Zed
open Go

/-! ### Who hangs on whom -/
def maskStep (acc : List Nat) (o : Oper) : List Nat :=
  acc ++ [o.after.toList.foldl (fun s ed => if Region.binds .any ed then s ||| (2 ^ ed.on ||| acc.getD ed.on 0) else s) 0]
def masks (l : List Oper) : List Nat := l.foldl maskStep []
def anc (l : List Oper) (i p : Nat) : Bool := ((masks l).getD i 0).testBit p

inductive Anc (l : List Oper) (p : Nat) : Nat → Prop
  | edge {i : Nat} {o : Oper} {ed : Edge} (ho : l[i]? = some o) (he : ed ∈ o.after.toList) (hb : Region.binds .any ed = true) (hp : ed.on = p) : Anc l p i
  | step {i : Nat} {o : Oper} {ed : Edge} (ho : l[i]? = some o) (he : ed ∈ o.after.toList) (hb : Region.binds .any ed = true) (hp : Anc l p ed.on) : Anc l p i

theorem foldl_bit (acc : List Nat) (p : Nat) : ∀ (es : List Edge) (s : Nat), (es.foldl (fun s ed => if Region.binds .any ed then s ||| (2 ^ ed.on ||| acc.getD ed.on 0) else s) s).testBit p = true →
    s.testBit p = true ∨ ∃ ed ∈ es, Region.binds .any ed = true ∧ (ed.on = p ∨ (acc.getD ed.on 0).testBit p = true)
  | [], s, h => .inl h
  | ed :: es, s, h => by
    simp only [List.foldl_cons] at h
    rcases foldl_bit acc p es _ h with h | ⟨e', he, hb, hp⟩
    · split at h
      · rename_i hbd
        simp only [Nat.testBit_or, Bool.or_eq_true, Nat.testBit_two_pow, decide_eq_true_eq] at h
        rcases h with h | h | h
        · exact .inl h
        · exact .inr ⟨ed, by simp, hbd, .inl h⟩
        · exact .inr ⟨ed, by simp, hbd, .inr h⟩
      · exact .inl h
    · exact .inr ⟨e', by simp [he], hb, hp⟩

theorem masks_anc (l : List Oper) : ∀ (post pre : List Oper) (acc : List Nat), pre ++ post = l → acc.length = pre.length →
    (∀ i p, (acc.getD i 0).testBit p = true → Anc l p i) → ∀ i p, ((post.foldl maskStep acc).getD i 0).testBit p = true → Anc l p i
  | [], _, _, _, _, h => h
  | o :: post, pre, acc, hl, hlen, h => by
    simp only [List.foldl_cons]
    refine masks_anc l post (pre ++ [o]) (maskStep acc o) (by simp [← hl]) (by simp [maskStep, hlen]) ?_
    intro i p hb
    by_cases hi : i < acc.length
    · refine h i p ?_
      simpa [maskStep, List.getD_eq_getElem?_getD, List.getElem?_append, hi] using hb
    · by_cases hi2 : i = acc.length
      · subst hi2
        have hb' : (o.after.toList.foldl (fun s ed => if Region.binds .any ed then s ||| (2 ^ ed.on ||| acc.getD ed.on 0) else s) 0).testBit p = true := by
          simpa [maskStep, List.getD_eq_getElem?_getD, List.getElem?_append] using hb
        have ho : l[acc.length]? = some o := by rw [← hl, hlen]; simp
        rcases foldl_bit acc p _ 0 hb' with h0 | ⟨ed, he, hbd, hp⟩
        · simp at h0
        · rcases hp with hp | hp
          · exact .edge ho he hbd hp
          · exact .step ho he hbd (h _ _ hp)
      · have : (maskStep acc o).getD i 0 = 0 := by
          simp only [maskStep, List.getD_eq_getElem?_getD]
          rw [List.getElem?_eq_none (by simp; omega)]; rfl
        rw [this] at hb; simp at hb

theorem anc_sound {l : List Oper} {i p : Nat} (h : anc l i p = true) : Anc l p i :=
  masks_anc l l [] [] rfl rfl (by simp) i p h

def looks (l : List Oper) (o : Oper) : List Nat :=
  (o.op.operands.toList.filterMap fun | .tmp t => some t | _ => none) ++
  (match o.guard with
   | some (j, _) => ((l[j]?).bind (·.dst)).toList
   | none => [])
def FitL (ls : List Nat) (e : List (Nat × Value)) (tmps : Array Value) : Prop := ∀ t ∈ ls, ∀ v, find e t = some v → tmps[t]? = some v
theorem FitL.op {l : List Oper} {o : Oper} {e : List (Nat × Value)} {tmps : Array Value} (h : FitL (looks l o) e tmps) : FitO o.op e tmps := by
  intro t ht v hv
  refine h t ?_ v hv
  simp only [looks, List.mem_append, List.mem_filterMap]
  exact .inl ⟨.tmp t, by simpa using ht, rfl⟩
theorem FitL.guard {l : List Oper} {o : Oper} {e : List (Nat × Value)} {tmps : Array Value} {j s : Nat} {b : Bool} {v : Value} (h : FitL (looks l o) e tmps) (hg : o.guard = some (j, b)) (hs : (l[j]?).bind (·.dst) = some s)
    (hv : find e s = some v) : tmps[s]? = some v := by
  refine h s ?_ v hv
  simp [looks, hg, hs]

/-- A quiet step, done or passed over. -/
def QS (P : Program) (l : List Oper) (o : Oper) (e : List (Nat × Value)) (at_ : List HProp) (g : Img) (v : Value) : Prop :=
  ∀ tmps D F w, FitL (looks l o) e tmps → Holds at_ F g w →
    (Region.wanted o (yielded l.toArray tmps) = true ∧ quietly o.op = true ∧ (execOp (Act.eval ⟨tmps, D⟩) o).run P w = .ok (.value v) w) ∨ (Region.wanted o (yielded l.toArray tmps) = false ∧ v = undef)

theorem Holds.le {own : List HProp} {F : Frag} {g g' : Img} {w : World} (h : Holds own F g' w) (hl : Le g g') : Holds own F g w := by
  obtain ⟨fr, hs, hg⟩ := h
  refine ⟨fr, hs, fun b o hb => hg.1 b o (hl.1 b o hb), fun p hp => ⟨(hg.2.1 p hp).1, ?_⟩, hg.2.2.1, hg.2.2.2.1.trans hl.2.1, hg.2.2.2.2.trans hl.2.2⟩
  cases hgp : g p.1 with
  | none => rfl
  | some o => have := hl.1 _ _ hgp; rw [(hg.2.1 p hp).2] at this; cases this

def freshB (l : List Oper) (i d : Nat) : Bool :=
  (List.range l.length).all fun m => (match l[m]? with
    | some o => (!(looks l o).contains d || (anc l m i && m != i)) && (m == i || o.dst != some d)
    | none => true)
theorem fresh_looks {l : List Oper} {i d m : Nat} {o : Oper} (h : freshB l i d = true) (ho : l[m]? = some o) (hd : d ∈ looks l o) : anc l m i = true ∧ m ≠ i := by
  have hm := (List.getElem?_eq_some_iff.1 ho).1
  have := (List.all_eq_true.1 h) m (by simpa using hm)
  simp only [ho, Bool.and_eq_true, Bool.or_eq_true, Bool.not_eq_true', List.contains_iff_mem, bne_iff_ne] at this
  rcases this.1 with h1 | h1
  · simp [hd] at h1
  · exact h1
theorem fresh_dst {l : List Oper} {i d m : Nat} {o : Oper} (h : freshB l i d = true) (ho : l[m]? = some o) (hd : o.dst = some d) : m = i := by
  have hm := (List.getElem?_eq_some_iff.1 ho).1
  have := (List.all_eq_true.1 h) m (by simpa using hm)
  simp only [ho, Bool.and_eq_true, Bool.or_eq_true, beq_iff_eq, bne_iff_ne] at this
  rcases this.2 with h1 | h1
  · exact h1
  · exact absurd hd h1

/-- No operation outside of rest looks at d. -/
def lateB (l : List Oper) (rest : List Nat) (d : Nat) : Bool :=
  (List.range l.length).all fun m => rest.contains m || (match l[m]? with | some o => !(looks l o).contains d | none => true)
theorem late_of {l : List Oper} {rest : List Nat} {d m : Nat} {o : Oper} (h : lateB l rest d = true) (ho : l[m]? = some o) (hm : m ∉ rest) : d ∉ looks l o := by
  have hlt := (List.getElem?_eq_some_iff.1 ho).1
  have := (List.all_eq_true.1 h) m (by simpa using hlt)
  simp only [ho, Bool.or_eq_true, List.contains_iff_mem, Bool.not_eq_true'] at this
  rcases this with h1 | h1
  · exact absurd h1 hm
  · intro hd; simp [hd] at h1
/-- Whoever outside of rest looks at d is ahead of i. -/
def lateE (l : List Oper) (rest : List Nat) (i d : Nat) : Bool :=
  (List.range l.length).all fun m => rest.contains m || (match l[m]? with | some o => !(looks l o).contains d || anc l i m | none => true)
theorem lateE_of {l : List Oper} {rest : List Nat} {i d m : Nat} {o : Oper} (h : lateE l rest i d = true) (ho : l[m]? = some o) (hm : m ∉ rest) (hd : d ∈ looks l o) : anc l i m = true := by
  have hlt := (List.getElem?_eq_some_iff.1 ho).1
  have := (List.all_eq_true.1 h) m (by simpa using hlt)
  simp only [ho, Bool.or_eq_true, List.contains_iff_mem, Bool.not_eq_true'] at this
  rcases this with h1 | h1 | h1
  · exact absurd h1 hm
  · simp [hd] at h1
  · exact h1

/-! ### The state of a region -/
/-- An allocation without operands: it may have been carried out ahead of its turn. -/
def FloatOk (P : Program) (N : Nat) (l : List Oper) (i : Nat) (ob : Obj) : Prop :=
  ∃ o d, l[i]? = some o ∧ o.dst = some d ∧ o.guard = none ∧ Nat.blt d N = true ∧ freshB l i d = true ∧ (∀ cl, o.op ≠ .defer cl) ∧
    ∀ ρ w, (execOp ρ o).run P w = .ok (.value (.pointer (some ⟨w.heap.size, 0, none⟩))) { w with heap := w.heap.push ob }

structure St (c : Cx) (l : List Oper) (fl : List (Nat × Obj)) (rest : List Nat) (lk : List (Nat × List HProp)) (e : List (Nat × Value)) (own : List HProp) (g : Img) (pend : List Nat) (ant : List (Nat × Nat × Obj)) (listed : Array Bool) (tmps : Array Value) (w : World) : Prop where
  size : listed.size = l.length
  mem : ∀ i, i < l.length → (listed.getD i false = false ↔ (i ∈ pend ∨ (i ∈ rest ∧ i ∉ ant.map (·.1))))
  nodup : (pend ++ rest).Nodup
  andup : (ant.map (·.1)).Nodup
  anti : ∀ x ∈ ant, x.1 ∈ rest ∧ (x.1, x.2.2) ∈ fl ∧ ∃ o d, l[x.1]? = some o ∧ o.dst = some d ∧ tmps[d]? = some (.pointer (some ⟨x.2.1, 0, none⟩))
  flok : ∀ x ∈ fl, FloatOk c.P c.N l x.1 x.2
  flun : ∀ x ∈ fl, x.1 ∈ rest → ∀ o d, l[x.1]? = some o → o.dst = some d → find e d = none
  inb : ∀ i, i ∈ pend ∨ i ∈ rest → i < l.length
  down : ∀ i o, l[i]? = some o → listed.getD i false = true → ∀ ed ∈ o.after.toList, Region.binds .any ed = true → listed.getD ed.on false = true
  early : ∀ i o, l[i]? = some o → ∀ ed ∈ o.after.toList, Region.binds .any ed = true → ed.on < i
  fsize : tmps.size = c.N
  fits : ∀ n v, find e n = some v → tmps[n]? = some v ∨ ∃ i ∈ pend, ∃ o, l[i]? = some o ∧ o.dst = some n
  quiet : ∀ i ∈ pend, ∃ o d v at_, l[i]? = some o ∧ o.dst = some d ∧ Nat.blt d c.N = true ∧ freshB l i d = true ∧ find e d = some v ∧ (i, at_) ∈ lk ∧ QS c.P l o e at_ g v
  locks : ∀ p ∈ lk, ∃ r, own.Perm (p.2 ++ r)
  holds : Holds own (ant.map (·.2) ++ c.F) g w

/-- How many stand unlisted. -/
def cnt (n : Nat) (listed : Array Bool) : Nat := (List.range n).countP fun i => !listed.getD i false

theorem countP_set {listed : Array Bool} {i : Nat} (hi : i < listed.size) (hf : listed.getD i false = false) : ∀ L : List Nat, L.Nodup →
    L.countP (fun m => !(listed.setIfInBounds i true).getD m false) + (if i ∈ L then 1 else 0) = L.countP fun m => !listed.getD m false
  | [], _ => by simp
  | m :: L, hn => by
    have ih := countP_set hi hf L (List.nodup_cons.1 hn).2
    have hm := (List.nodup_cons.1 hn).1
    simp only [List.countP_cons]
    by_cases h : m = i
    · subst h
      have h1 : (listed.setIfInBounds m true).getD m false = true := by simp [Array.getD, hi]
      simp only [hm, if_false] at ih
      rw [h1, hf]
      simp only [Bool.not_true, Bool.false_eq_true, if_false, Bool.not_false, if_true, List.mem_cons, true_or]
      omega
    · have h1 : (listed.setIfInBounds i true).getD m false = listed.getD m false := by
        simp only [Array.getD_eq_getD_getElem?, Array.getElem?_setIfInBounds]; simp [Ne.symm h]
      rw [h1]
      have h2 : (i ∈ m :: L) ↔ i ∈ L := by simp [Ne.symm h]
      simp only [h2]
      omega
theorem cnt_set {n : Nat} {listed : Array Bool} {i : Nat} (hi : i < listed.size) (hin : i < n) (hf : listed.getD i false = false) : cnt n (listed.setIfInBounds i true) + 1 = cnt n listed := by
  have := countP_set hi hf (List.range n) List.nodup_range
  simpa [cnt, hin] using this
theorem cnt_zero {n : Nat} {listed : Array Bool} (h : cnt n listed = 0) {i : Nat} (hi : i < n) : listed.getD i false = true := by
  simp only [cnt, List.countP_eq_zero, List.mem_range] at h
  simpa using h i hi

def RG (c : Cx) (l : List Oper) (fl : List (Nat × Obj)) (rest : List Nat) (lk : List (Nat × List HProp)) (k : List Item) (D : List Deferred) (e : List (Nat × Value)) (own : List HProp) (g : Img) : Prop :=
  Le c.g0 g → ∀ pend ant listed tmps w, St c l fl rest lk e own g pend ant listed tmps w → ∀ fuel t, cnt l.length listed ≤ fuel →
    Rch c.P (c.fr tmps (.inRegion l.toArray (Region.linearise.go .any l.toArray fuel t listed []) :: k) D) w c.T

variable {c : Cx} {l : List Oper} {fl : List (Nat × Obj)} {ant : List (Nat × Nat × Obj)} {rest : List Nat} {lk : List (Nat × List HProp)} {k : List Item} {D : List Deferred} {e : List (Nat × Value)} {own : List HProp} {g : Img} {pend : List Nat} {listed : Array Bool} {tmps : Array Value} {w : World}

theorem mem_ready {i : Nat} : i ∈ Region.ready .any l.toArray listed ↔ ∃ o, l[i]? = some o ∧ listed.getD i true = false ∧ ∀ ed ∈ o.after.toList, Region.binds .any ed = true → listed.getD ed.on false = true := by
  simp only [Region.ready, List.mem_filter, List.mem_range, List.size_toArray, Bool.and_eq_true, Bool.not_eq_true']
  constructor
  · rintro ⟨hlt, hl, ha⟩
    refine ⟨l[i], by simp [hlt], hl, ?_⟩
    simp only [List.getElem?_toArray, List.getElem?_eq_getElem hlt, Option.map_some, Option.getD_some] at ha
    rw [← Array.all_toList, List.all_eq_true] at ha
    intro ed hed hb
    have := ha ed hed
    simpa [hb] using this
  · rintro ⟨o, ho, hl, ha⟩
    have hlt := (List.getElem?_eq_some_iff.1 ho).1
    refine ⟨hlt, hl, ?_⟩
    simp only [List.getElem?_toArray, ho, Option.map_some, Option.getD_some]
    rw [← Array.all_toList, List.all_eq_true]
    intro ed hed
    cases hb : Region.binds .any ed
    · simp
    · simp [ha ed hed hb]

theorem getD_tf {i : Nat} (hi : i < listed.size) : listed.getD i true = listed.getD i false := by simp [Array.getD, hi]

theorem St.ready_listed (s : St c l fl rest lk e own g pend ant listed tmps w) {i p : Nat} (hr : i ∈ Region.ready .any l.toArray listed) (h : Anc l p i) : listed.getD p false = true := by
  obtain ⟨o, ho, _, ha⟩ := mem_ready.1 hr
  have key : ∀ q, listed.getD q false = true → Anc l p q → listed.getD p false = true := by
    intro q hq hanc
    induction hanc with
    | edge ho' he hb hp => exact hp ▸ s.down _ _ ho' hq _ he hb
    | step ho' he hb _ ih => exact ih (s.down _ _ ho' hq _ he hb)
  cases h with
  | edge ho' he hb hp => rw [ho] at ho'; cases ho'; exact hp ▸ ha _ he hb
  | step ho' he hb hanc => rw [ho] at ho'; cases ho'; exact key _ (ha _ he hb) hanc

theorem St.ready_un (s : St c l fl rest lk e own g pend ant listed tmps w) {i : Nat} (hr : i ∈ Region.ready .any l.toArray listed) : i ∈ pend ∨ (i ∈ rest ∧ i ∉ ant.map (·.1)) := by
  obtain ⟨o, ho, hl, _⟩ := mem_ready.1 hr
  have hlt := (List.getElem?_eq_some_iff.1 ho).1
  rw [getD_tf (by rw [s.size]; exact hlt)] at hl
  exact (s.mem i hlt).1 hl

theorem St.un (s : St c l fl rest lk e own g pend ant listed tmps w) {i : Nat} (h : i ∈ pend ∨ (i ∈ rest ∧ i ∉ ant.map (·.1))) : listed.getD i false = false :=
  (s.mem i (s.inb i (h.imp id (·.1)))).2 h

theorem St.ready_ne (s : St c l fl rest lk e own g pend ant listed tmps w) {i : Nat} (h : i ∈ pend ∨ (i ∈ rest ∧ i ∉ ant.map (·.1))) : Region.ready .any l.toArray listed ≠ [] := by
  have key : ∀ n i, i ≤ n → listed.getD i false = false → i < l.length → ∃ j, j ∈ Region.ready .any l.toArray listed := by
    intro n
    induction n with
    | zero =>
      intro i hi hl hlt
      obtain rfl : i = 0 := by omega
      refine ⟨0, mem_ready.2 ⟨l[0], by simp [hlt], by rw [getD_tf (by rw [s.size]; exact hlt)]; exact hl, fun ed hed hb => ?_⟩⟩
      have := s.early 0 l[0] (by simp [hlt]) ed hed hb
      omega
    | succ n ih =>
      intro i hi hl hlt
      by_cases hall : ∀ ed ∈ l[i].after.toList, Region.binds .any ed = true → listed.getD ed.on false = true
      · exact ⟨i, mem_ready.2 ⟨l[i], by simp [hlt], by rw [getD_tf (by rw [s.size]; exact hlt)]; exact hl, hall⟩⟩
      · have : ∃ ed ∈ l[i].after.toList, Region.binds .any ed = true ∧ listed.getD ed.on false = false := by
          apply Classical.byContradiction
          intro hne
          refine hall fun ed hed hb => ?_
          cases hq : listed.getD ed.on false with
          | true => rfl
          | false => exact absurd ⟨ed, hed, hb, hq⟩ hne
        obtain ⟨ed, hed, hb, hq⟩ := this
        have hlt2 := s.early i l[i] (by simp [hlt]) ed hed hb
        exact ih ed.on (by omega) hq (by omega)
  obtain ⟨j, hj⟩ := key i i (Nat.le_refl _) (s.un h) (s.inb i (h.imp id (·.1)))
  intro hnil
  rw [hnil] at hj
  cases hj

theorem go_next {fuel t : Nat} (hne : Region.ready .any l.toArray listed ≠ []) : ∃ i ∈ Region.ready .any l.toArray listed, ∃ t', Region.linearise.go .any l.toArray (fuel + 1) t listed [] = i :: Region.linearise.go .any l.toArray fuel t' (listed.setIfInBounds i true) [] := by
  have hlt : t % (Region.ready .any l.toArray listed).length < (Region.ready .any l.toArray listed).length := Nat.mod_lt _ (List.length_pos_iff.2 hne)
  refine ⟨(Region.ready .any l.toArray listed)[t % (Region.ready .any l.toArray listed).length], List.getElem_mem _, t / (Region.ready .any l.toArray listed).length, ?_⟩
  simp only [Region.linearise.go]
  change (match (Region.ready .any l.toArray listed)[t % (Region.ready .any l.toArray listed).length]? with
      | some i => Region.linearise.go .any l.toArray fuel (t / (Region.ready .any l.toArray listed).length) (listed.setIfInBounds i true) [i]
      | none => [].reverse) = _
  rw [List.getElem?_eq_getElem hlt]
  simp only []
  rw [linearise_go_acc]
  rfl

theorem go_nil {fuel t : Nat} (h : Region.ready .any l.toArray listed = []) : Region.linearise.go .any l.toArray fuel t listed [] = [] := by
  cases fuel with
  | zero => simp [Region.linearise.go]
  | succ fuel =>
    simp only [Region.linearise.go]
    change (match (Region.ready .any l.toArray listed)[t % (Region.ready .any l.toArray listed).length]? with
      | some i => Region.linearise.go .any l.toArray fuel (t / (Region.ready .any l.toArray listed).length) (listed.setIfInBounds i true) [i]
      | none => [].reverse) = _
    rw [h]; rfl

theorem St.fitL (s : St c l fl rest lk e own g pend ant listed tmps w) {i : Nat} {o : Oper} (hr : i ∈ Region.ready .any l.toArray listed) (ho : l[i]? = some o) : FitL (looks l o) e tmps := by
  intro t ht v hv
  rcases s.fits t v hv with h | ⟨j, hj, oj, hoj, hdj⟩
  · exact h
  · obtain ⟨o', d', v', at_, ho', hd', _, hfr, _⟩ := s.quiet j hj
    rw [hoj] at ho'; cases ho'
    rw [hdj] at hd'; cases hd'
    have := (fresh_looks hfr ho ht).1
    have hl := s.ready_listed hr (anc_sound this)
    rw [s.un (.inl hj)] at hl
    cases hl

theorem getD_set {i m : Nat} (hi : i < listed.size) : (listed.setIfInBounds i true).getD m false = if m = i then true else listed.getD m false := by
  simp only [Array.getD_eq_getD_getElem?, Array.getElem?_setIfInBounds]
  by_cases h : i = m
  · subst h; simp [hi]
  · simp [h, Ne.symm h]

/-- A quiet operation that stood behind is carried out. -/
theorem St.take (s : St c l fl rest lk e own g pend ant listed tmps w) {i : Nat} (hi : i ∈ pend) (hr : i ∈ Region.ready .any l.toArray listed) (sched : List Nat) (cs : List Frame) :
    ∃ tmps', St c l fl rest lk e own g (pend.erase i) ant (listed.setIfInBounds i true) tmps' w ∧
      step c.P (lone (c.fr tmps (.inRegion l.toArray (i :: sched) :: k) D) cs w) = .next (lone (c.fr tmps' (.inRegion l.toArray sched :: k) D) cs w) := by
  obtain ⟨o, d, v, at_, ho, hd, hdN, hfr, hfe, hlk, hq⟩ := s.quiet i hi
  have hfit := s.fitL hr ho
  obtain ⟨r, hperm⟩ := s.locks _ hlk
  obtain ⟨F', hA⟩ := (s.holds.perm hperm).front
  have hlt := s.inb i (.inl hi)
  have hin : i < listed.size := by rw [s.size]; exact hlt
  have hnd : pend.Nodup := (List.nodup_append.1 s.nodup).1
  have hnr : i ∉ rest := fun h => (List.nodup_append.1 s.nodup).2.2 i hi i h rfl
  refine ⟨tmps.setIfInBounds d v, ?_, ?_⟩
  · refine { size := by simp [s.size], mem := ?_, nodup := ?_, andup := s.andup, anti := ?_, flok := s.flok, flun := s.flun, inb := ?_, down := ?_, early := s.early, fsize := by simp [s.fsize], fits := ?_, quiet := ?_, locks := ?_, holds := s.holds }
    · intro m hm
      rw [getD_set hin]
      by_cases hmi : m = i
      · subst hmi
        simp only [if_true, Bool.true_eq_false, false_iff]
        rintro (h | h)
        · exact (List.Nodup.not_mem_erase hnd) h
        · exact hnr h.1
      · simp only [hmi, if_false]
        rw [s.mem m hm]
        simp [List.mem_erase_of_ne hmi]
    · exact (List.nodup_append.2 ⟨hnd.erase _, (List.nodup_append.1 s.nodup).2.1, fun a ha b hb => (List.nodup_append.1 s.nodup).2.2 a (List.mem_of_mem_erase ha) b hb⟩)
    · intro x hx
      obtain ⟨h1, h2, o', d', ho', hd', ht'⟩ := s.anti x hx
      refine ⟨h1, h2, o', d', ho', hd', ?_⟩
      have : d ≠ d' := by
        rintro rfl
        have := fresh_dst hfr ho' hd'
        exact hnr (this ▸ h1)
      rw [Array.getElem?_setIfInBounds]; simp [this, ht']
    · rintro m (h | h)
      · exact s.inb m (.inl (List.mem_of_mem_erase h))
      · exact s.inb m (.inr h)
    · intro m om hom hl ed hed hb
      rw [getD_set hin] at hl ⊢
      by_cases he : ed.on = i
      · simp [he]
      · simp only [he, if_false]
        by_cases hmi : m = i
        · subst hmi
          obtain ⟨o', ho', _, ha⟩ := mem_ready.1 hr
          rw [hom] at ho'; cases ho'
          exact ha ed hed hb
        · simp only [hmi, if_false] at hl
          exact s.down m om hom hl ed hed hb
    · intro n u hu
      by_cases hn : n = d
      · subst hn
        rw [hfe] at hu; cases hu
        left
        have : n < tmps.size := by rw [s.fsize]; simpa using hdN
        simp [Array.getElem?_setIfInBounds, this]
      · rcases s.fits n u hu with h | ⟨j, hj, oj, hoj, hdj⟩
        · left; rw [Array.getElem?_setIfInBounds]; simp [Ne.symm hn, h]
        · right
          refine ⟨j, ?_, oj, hoj, hdj⟩
          have hji : j ≠ i := by rintro rfl; rw [ho] at hoj; cases hoj; rw [hd] at hdj; cases hdj; exact hn rfl
          exact (List.mem_erase_of_ne hji).2 hj
    · intro j hj
      exact s.quiet j (List.mem_of_mem_erase hj)
    · exact s.locks
  · have ho' : l.toArray[i]? = some o := by simpa using ho
    rcases hq tmps D F' w hfit hA with ⟨hw, hqu, hrun⟩ | ⟨hw, rfl⟩
    · have hg := stepGR_op (P := c.P) (b := c.base) (a := ⟨tmps, D⟩) (k := k) (cs := cs) (w := w) (ops := l.toArray) (i := i) (rest := sched) ho' hw
      rw [Oper.semAt_eq _ _ _ (fun cl he => by rw [he] at hqu; cases hqu)] at hg
      have hfin := finish_fr (c := c) (k := k) (D := D) tmps l.toArray i sched v o ho'
      refine step_lone_go ?_
      rw [Cx.fr, hg]
      have : c.fr (tmps.setIfInBounds d v) (.inRegion l.toArray sched :: k) D = (c.fr tmps (.inRegion l.toArray (i :: sched) :: k) D).finish v := by
        rw [hfin, hd]; rfl
      rw [this]
      simp [stepG.apply, hrun, Cx.fr]
    · have hstep := stepR_op_skip (P := c.P) (b := c.base) (a := ⟨tmps, D⟩) (k := k) (cs := cs) (w := w) (ops := l.toArray) (i := i) (rest := sched) (by simp [ho, hw])
      rw [Cx.fr, hstep, ho']
      simp [Act.put, hd, Cx.fr]


theorem St.next (s : St c l fl rest lk e own g pend ant listed tmps w) {i : Nat} (h : i ∈ pend ∨ (i ∈ rest ∧ i ∉ ant.map (·.1))) {fuel t : Nat} (hf : cnt l.length listed ≤ fuel) :
    ∃ m fuel' t', m ∈ Region.ready .any l.toArray listed ∧ Region.linearise.go .any l.toArray fuel t listed [] = m :: Region.linearise.go .any l.toArray fuel' t' (listed.setIfInBounds m true) [] ∧
      cnt l.length (listed.setIfInBounds m true) ≤ fuel' ∧ fuel' < fuel ∧ m < listed.size := by
  have hne := s.ready_ne h
  have hpos : fuel ≠ 0 := by
    rintro rfl
    have := cnt_zero (Nat.le_zero.1 hf) (s.inb i (h.imp id (·.1)))
    rw [s.un h] at this; cases this
  obtain ⟨f, rfl⟩ : ∃ f, fuel = f + 1 := ⟨fuel - 1, by omega⟩
  obtain ⟨m, hr, t', hgo⟩ := go_next (fuel := f) (t := t) hne
  have hu := s.ready_un hr
  have hml := s.inb m (hu.imp id (·.1))
  have hms : m < listed.size := by rw [s.size]; exact hml
  have := cnt_set (n := l.length) hms hml (s.un hu)
  exact ⟨m, f, t', hr, hgo, by omega, by omega, hms⟩

/-- An allocation is carried out ahead of its turn. -/
theorem St.float (s : St c l fl rest lk e own g pend ant listed tmps w) {i : Nat} {ob : Obj} (hfl : (i, ob) ∈ fl) (hi : i ∈ rest ∧ i ∉ ant.map (·.1)) (hr : i ∈ Region.ready .any l.toArray listed) (sched : List Nat) (cs : List Frame) :
    ∃ tmps' w', St c l fl rest lk e own g pend ((i, w.heap.size, ob) :: ant) (listed.setIfInBounds i true) tmps' w' ∧
      step c.P (lone (c.fr tmps (.inRegion l.toArray (i :: sched) :: k) D) cs w) = .next (lone (c.fr tmps' (.inRegion l.toArray sched :: k) D) cs w') := by
  obtain ⟨o, d, ho, hd, hgd, hdN, hfr, hdef, hrun⟩ := s.flok _ hfl
  dsimp only at ho hfr
  have hlt := s.inb i (.inr hi.1)
  have hin : i < listed.size := by rw [s.size]; exact hlt
  have hnd := List.nodup_append.1 s.nodup
  have hip : i ∉ pend := fun h => hnd.2.2 i h i hi.1 rfl
  have hdt : d < tmps.size := by rw [s.fsize]; simpa using hdN
  refine ⟨tmps.setIfInBounds d (.pointer (some ⟨w.heap.size, 0, none⟩)), { w with heap := w.heap.push ob }, ?_, ?_⟩
  · refine { size := by simp [s.size], mem := ?_, nodup := s.nodup, andup := ?_, anti := ?_, flok := s.flok, flun := s.flun, inb := s.inb, down := ?_, early := s.early, fsize := by simp [s.fsize], fits := ?_, quiet := s.quiet, locks := s.locks, holds := ?_ }
    · intro m hm
      rw [getD_set hin]
      by_cases hmi : m = i
      · subst hmi
        simp [hip]
      · simp only [hmi, if_false]
        rw [s.mem m hm]
        simp [hmi]
    · simp only [List.map_cons, List.nodup_cons]; exact ⟨hi.2, s.andup⟩
    · intro x hx
      simp only [List.mem_cons] at hx
      rcases hx with rfl | hx
      · exact ⟨hi.1, hfl, o, d, ho, hd, by simp [hdt]⟩
      · obtain ⟨h1, h2, o', d', ho', hd', ht'⟩ := s.anti x hx
        refine ⟨h1, h2, o', d', ho', hd', ?_⟩
        have : d ≠ d' := by
          rintro rfl
          have := fresh_dst hfr ho' hd'
          exact hi.2 (List.mem_map.2 ⟨x, hx, this⟩)
        rw [Array.getElem?_setIfInBounds]; simp [this, ht']
    · intro m om hom hl ed hed hb
      rw [getD_set hin] at hl ⊢
      by_cases he : ed.on = i
      · simp [he]
      · simp only [he, if_false]
        by_cases hmi : m = i
        · subst hmi
          obtain ⟨o', ho', _, ha⟩ := mem_ready.1 hr
          rw [hom] at ho'; cases ho'
          exact ha ed hed hb
        · simp only [hmi, if_false] at hl
          exact s.down m om hom hl ed hed hb
    · intro n u hu
      have hn : n ≠ d := by
        rintro rfl
        rw [s.flun _ hfl hi.1 o n ho hd] at hu; cases hu
      rcases s.fits n u hu with h | x
      · left; rw [Array.getElem?_setIfInBounds]; simp [Ne.symm hn, h]
      · exact .inr x
    · have h1 := Holds.alloc (o := ob) (w' := { w with heap := w.heap.push ob }) s.holds rfl
      obtain ⟨fr, ⟨f1, f2, rfl, rfl, hs⟩, hg⟩ := h1
      refine ⟨f2, hs, hg.perm ?_⟩
      simp only [List.map_cons, List.append_assoc, List.cons_append, List.nil_append]
      exact (List.perm_middle (l₁ := f2)).symm
  · have ho' : l.toArray[i]? = some o := by simpa using ho
    have hw : Region.wanted o (yielded l.toArray tmps) = true := by simp [Region.wanted, hgd]
    have hg := stepGR_op (P := c.P) (b := c.base) (a := ⟨tmps, D⟩) (k := k) (cs := cs) (w := w) (ops := l.toArray) (i := i) (rest := sched) ho' hw
    rw [Oper.semAt_eq _ _ _ hdef] at hg
    have hfin := finish_fr (c := c) (k := k) (D := D) tmps l.toArray i sched (.pointer (some ⟨w.heap.size, 0, none⟩)) o ho'
    refine step_lone_go ?_
    rw [Cx.fr, hg]
    have : c.fr (tmps.setIfInBounds d (.pointer (some ⟨w.heap.size, 0, none⟩))) (.inRegion l.toArray sched :: k) D = (c.fr tmps (.inRegion l.toArray (i :: sched) :: k) D).finish (.pointer (some ⟨w.heap.size, 0, none⟩)) := by
      rw [hfin, hd]; rfl
    rw [this]
    simp [stepG.apply, hrun, Cx.fr]

theorem RG.nil (h : R c k D e own g) : RG c l fl [] lk k D e own g := by
  intro hle pend ant listed tmps w s fuel
  induction fuel using Nat.strongRecOn generalizing pend ant listed tmps w with
  | _ fuel ih =>
    intro t hfu
    have hant : ant = [] := by
      cases hc : ant with
      | nil => rfl
      | cons x xs => have := (s.anti x (by simp [hc])).1; cases this
    subst hant
    cases hp : pend with
    | nil =>
      subst hp
      have hnil : Region.ready .any l.toArray listed = [] := by
        cases hr : Region.ready .any l.toArray listed with
        | nil => rfl
        | cons i is =>
          have := s.ready_un (i := i) (by rw [hr]; simp)
          simp at this
      rw [go_nil hnil]
      intro cs
      have hf : Fits c.N e tmps := ⟨s.fsize, fun n v hv => by
        rcases s.fits n v hv with h | ⟨i, hi, _⟩
        · exact h
        · cases hi⟩
      obtain ⟨fr', w', ht, hs⟩ := h hle tmps w hf (by simpa using s.holds) cs
      exact ⟨fr', w', ht, .head (stepR_region_end (b := c.base)) hs⟩
    | cons i0 ps =>
      obtain ⟨m, f', t', hr, hgo, hc, hlt, _⟩ := s.next (t := t) (i := i0) (.inl (by simp [hp])) hfu
      rw [hgo]
      have hm : m ∈ pend := by
        rcases s.ready_un hr with h | h
        · exact h
        · cases h.1
      intro cs
      obtain ⟨tmps', s', hstep⟩ := s.take (k := k) (D := D) hm hr (Region.linearise.go .any l.toArray f' t' (listed.setIfInBounds m true) []) cs
      obtain ⟨fr', w', ht, hs⟩ := ih f' hlt _ _ _ tmps' w s' t' hc cs
      exact ⟨fr', w', ht, .head hstep hs⟩

theorem find_ne {d n : Nat} {v : Value} (h : n ≠ d) : find ((d, v) :: e) n = find e n := by
  simp only [find, beq_eq, Ne.symm h, decide_false, cond_false]
theorem find_eq {d : Nat} {v : Value} : find ((d, v) :: e) d = some v := by simp [find]

theorem FitL.cons {ls : List Nat} {d : Nat} {v : Value} {tmps : Array Value} (h : FitL ls ((d, v) :: e) tmps) (hd : d ∉ ls) : FitL ls e tmps := by
  intro t ht u hu
  refine h t ht u ?_
  rw [find_ne (fun he => hd (by subst he; exact ht))]; exact hu

theorem QS.cons {P : Program} {o : Oper} {at_ : List HProp} {v u : Value} {d : Nat} (h : QS P l o e at_ g v) (hd : d ∉ looks l o) : QS P l o ((d, u) :: e) at_ g v :=
  fun tmps D F w hf hh => h tmps D F w (hf.cons hd) hh

theorem RG.quiet {i d : Nat} {o : Oper} {v : Value} {at_ r : List HProp} (hif : i ∉ fl.map (·.1)) (ho : l[i]? = some o) (hd : o.dst = some d) (hdN : Nat.blt d c.N = true) (hfr : freshB l i d = true) (hlt : lateB l (i :: rest) d = true)
    (hp : own.Perm (at_ ++ r)) (hq : QS c.P l o e at_ g v) (h : RG c l fl rest ((i, at_) :: lk) k D ((d, v) :: e) own g) : RG c l fl (i :: rest) lk k D e own g := by
  intro hle pend ant listed tmps w s fuel t hfu
  have hnd := List.nodup_append.1 s.nodup
  have hir : i ∉ rest := (List.nodup_cons.1 hnd.2.1).1
  have hia : i ∉ ant.map (·.1) := by
    intro hm
    obtain ⟨x, hx, rfl⟩ := List.mem_map.1 hm
    exact hif (List.mem_map.2 ⟨_, (s.anti x hx).2.1, rfl⟩)
  refine h hle (i :: pend) ant listed tmps w ?_ fuel t hfu
  refine { size := s.size, mem := ?_, nodup := ?_, andup := s.andup, anti := ?_, flok := s.flok, flun := ?_, inb := ?_, down := s.down, early := s.early, fsize := s.fsize, fits := ?_, quiet := ?_, locks := ?_, holds := s.holds }
  · intro m hm
    rw [s.mem m hm]
    simp only [List.mem_cons]
    constructor
    · rintro (h | ⟨h | h, h2⟩)
      · exact .inl (.inr h)
      · exact .inl (.inl h)
      · exact .inr ⟨h, h2⟩
    · rintro ((h | h) | h)
      · subst h; exact .inr ⟨.inl rfl, hia⟩
      · exact .inl h
      · exact .inr ⟨.inr h.1, h.2⟩
  · have : (pend ++ i :: rest).Perm (i :: pend ++ rest) := by simp
    exact this.nodup_iff.1 s.nodup
  · intro x hx
    obtain ⟨h1, h2, h3⟩ := s.anti x hx
    refine ⟨?_, h2, h3⟩
    simp only [List.mem_cons] at h1
    rcases h1 with h1 | h1
    · exact absurd (h1 ▸ List.mem_map.2 ⟨x, hx, rfl⟩) hia
    · exact h1
  · intro x hx hxr o' d' ho' hd'
    have hne : d' ≠ d := by
      rintro rfl
      have := fresh_dst hfr ho' hd'
      exact hif (List.mem_map.2 ⟨x, hx, this⟩)
    rw [find_ne hne]
    exact s.flun x hx (by simp [hxr]) o' d' ho' hd'
  · rintro m (h | h)
    · simp only [List.mem_cons] at h
      rcases h with rfl | h
      · exact s.inb m (.inr (by simp))
      · exact s.inb m (.inl h)
    · exact s.inb m (.inr (by simp [h]))
  · intro n u hu
    by_cases hn : n = d
    · subst hn; exact .inr ⟨i, by simp, o, ho, hd⟩
    · rw [find_ne hn] at hu
      rcases s.fits n u hu with h | ⟨j, hj, x⟩
      · exact .inl h
      · exact .inr ⟨j, by simp [hj], x⟩
  · intro j hj
    simp only [List.mem_cons] at hj
    rcases hj with rfl | hj
    · refine ⟨o, d, v, at_, ho, hd, hdN, hfr, find_eq, by simp, hq.cons ?_⟩
      intro hdl
      exact (fresh_looks hfr ho hdl).2 rfl
    · obtain ⟨oj, dj, vj, atj, hoj, hdj, hN, hfrj, hfj, hlkj, hqj⟩ := s.quiet j hj
      have hjr : j ∉ i :: rest := fun hm => hnd.2.2 j hj j hm rfl
      have hne : dj ≠ d := by
        rintro rfl
        have := fresh_dst hfr hoj hdj
        subst this
        exact hjr (by simp)
      exact ⟨oj, dj, vj, atj, hoj, hdj, hN, hfrj, by rw [find_ne hne]; exact hfj, by simp [hlkj], hqj.cons (late_of hlt hoj hjr)⟩
  · intro p hp'
    simp only [List.mem_cons] at hp'
    rcases hp' with rfl | hp'
    · exact ⟨r, hp⟩
    · exact s.locks p hp'

/-- One owned thing among all. -/
class inductive Has (p : HProp) : List HProp → Prop
  | there {q : HProp} {own : List HProp} (h : Has p own) : Has p (q :: own)
  | here {r : List HProp} : Has p (p :: r)
instance {p q : HProp} {own : List HProp} [h : Has p own] : Has p (q :: own) := .there h
instance {p : HProp} {r : List HProp} : Has p (p :: r) := .here
theorem Has.pick {p : HProp} {own : List HProp} (h : Has p own) : ∃ r, Pick own [p] r := by
  have : ∃ r, Take p own r := by
    induction h with
    | here => exact ⟨_, .here⟩
    | there _ ih => obtain ⟨r, hr⟩ := ih; exact ⟨_, .there hr⟩
  obtain ⟨r, hr⟩ := this
  exact ⟨r, .cons hr .nil⟩
inductive Locks (own : List HProp) : List (Nat × List HProp) → Prop
  | nil : Locks own []
  | cons {i : Nat} {at_ r : List HProp} {lk : List (Nat × List HProp)} (h : Pick own at_ r) (t : Locks own lk) : Locks own ((i, at_) :: lk)
theorem Locks.cons0 {own : List HProp} {i : Nat} {lk : List (Nat × List HProp)} (t : Locks own lk) : Locks own ((i, []) :: lk) := .cons .nil t
theorem Locks.cons1 {own : List HProp} {i : Nat} {p : HProp} {lk : List (Nat × List HProp)} [h : Has p own] (t : Locks own lk) : Locks own ((i, [p]) :: lk) := by
  obtain ⟨r, hr⟩ := h.pick
  exact .cons hr t
theorem Locks.all {own : List HProp} {lk : List (Nat × List HProp)} (h : Locks own lk) : ∀ p ∈ lk, ∃ r, own.Perm (p.2 ++ r) := by
  induction h with
  | nil => intro p hp; cases hp
  | cons hpk _ ih =>
    intro p hp
    simp only [List.mem_cons] at hp
    rcases hp with rfl | hp
    · exact ⟨_, hpk.perm⟩
    · exact ih p hp

def unlock (l : List Oper) (i : Nat) (lk : List (Nat × List HProp)) : List (Nat × List HProp) := lk.filter fun p => !anc l i p.1

def EffOk (c : Cx) (l : List Oper) (fl : List (Nat × Obj)) (rest : List Nat) (lk : List (Nat × List HProp)) (k : List Item) (D : List Deferred) (e : List (Nat × Value)) (own : List HProp) (g : Img) (i : Nat) : Prop :=
  ∃ o, l[i]? = some o ∧ (o.dst.all fun d => Nat.blt d c.N) = true ∧ (o.dst.all fun d => lateE l rest i d) = true ∧ (o.guard = none ∨ ∃ j b s, o.guard = some (j, b) ∧ (l[j]?).bind (·.dst) = some s ∧ find e s = some (.bool b)) ∧
    OpOk c D o.op o.type e own g (fun v own' g' => Locks own' (unlock l i lk) ∧ RG c l fl (rest.erase i) (unlock l i lk) k D (putE o.dst v e) own' g')

theorem St.look (s : St c l fl rest lk e own g pend ant listed tmps w) {m : Nat} (hr : m ∈ Region.ready .any l.toArray listed) {d : Nat} (hla : lateE l rest m d = true) : ∀ j ∈ pend, ∀ oj, l[j]? = some oj → d ∉ looks l oj := by
  intro j hj oj hoj hdl
  have hjr : j ∉ rest := fun hx => (List.nodup_append.1 s.nodup).2.2 j hj j hx rfl
  have := s.ready_listed hr (anc_sound (lateE_of hla hoj hjr hdl))
  rw [s.un (.inl hj)] at this
  cases this

theorem RG.effs (cands : List Nat) (hsub : ∀ i ∈ cands, i ∈ rest ∧ i ∉ fl.map (·.1)) (hne : cands ≠ []) (hrest : ∀ m ∈ rest, m ∈ cands ∨ (∃ x ∈ cands, anc l m x = true) ∨ m ∈ fl.map (·.1))
    (h : ∀ i ∈ cands, EffOk c l fl rest lk k D e own g i) : RG c l fl rest lk k D e own g := by
  intro hle pend ant listed tmps w s fuel
  obtain ⟨i0, hi0⟩ := List.exists_mem_of_ne_nil _ hne
  induction fuel using Nat.strongRecOn generalizing pend ant listed tmps w with
  | _ fuel ih =>
    intro t hfu
    have hca : ∀ i ∈ cands, i ∈ rest ∧ i ∉ ant.map (·.1) := by
      intro i hi
      refine ⟨(hsub i hi).1, fun hm => ?_⟩
      obtain ⟨x, hx, rfl⟩ := List.mem_map.1 hm
      exact (hsub _ hi).2 (List.mem_map.2 ⟨_, (s.anti x hx).2.1, rfl⟩)
    obtain ⟨m, f', t', hr, hgo, hc, hlt, hin⟩ := s.next (t := t) (i := i0) (.inr (hca i0 hi0)) hfu
    rw [hgo]
    have hnd := List.nodup_append.1 s.nodup
    intro cs
    rcases s.ready_un hr with hm | hm
    · obtain ⟨tmps', s', hstep⟩ := s.take (k := k) (D := D) hm hr (Region.linearise.go .any l.toArray f' t' (listed.setIfInBounds m true) []) cs
      obtain ⟨fr', w', ht, hs⟩ := ih f' hlt _ _ _ tmps' w s' t' hc cs
      exact ⟨fr', w', ht, .head hstep hs⟩
    · rcases hrest m hm.1 with hmc | ⟨x, hx, hax⟩ | hmf
      · obtain ⟨o, ho, hdN, hlte, hg, h⟩ := h m hmc
        have hir : m ∉ rest.erase m := List.Nodup.not_mem_erase hnd.2.1
        have hfit := s.fitL hr ho
        have hw : Region.wanted o (yielded l.toArray tmps) = true := by
          rcases hg with hg | ⟨j, b, sl, hg, hj, hf⟩
          · simp [Region.wanted, hg]
          · have := hfit.guard hg hj hf
            simp [Region.wanted, hg, yielded, hj, this]
        have ho' : l.toArray[m]? = some o := by simpa using ho
        obtain ⟨v, own', g', w', hle', ⟨hlk, hK⟩, hh', hsteps⟩ := h hle (ant.map (·.2) ++ c.F) tmps w hfit.op s.holds l.toArray m (Region.linearise.go .any l.toArray f' t' (listed.setIfInBounds m true) []) k cs o ho' rfl rfl hw
        rw [finish_fr tmps l.toArray m _ v o ho'] at hsteps
        have hmp : m ∉ pend := fun hp => hnd.2.2 m hp m hm.1 rfl
        have hmfl : m ∉ fl.map (·.1) := (hsub m hmc).2
        have hdl : ∀ d, o.dst = some d → lateE l rest m d = true := fun d hd => by simpa [hd] using hlte
        have hs' : St c l fl (rest.erase m) (unlock l m lk) (putE o.dst v e) own' g' pend ant (listed.setIfInBounds m true) (putT o.dst v tmps) w' := by
          refine { size := by simp [s.size], mem := ?_, nodup := ?_, andup := s.andup, anti := ?_, flok := s.flok, flun := ?_, inb := ?_, down := ?_, early := s.early, fsize := ?_, fits := ?_, quiet := ?_, locks := hlk.all, holds := hh' }
          · intro q hq
            rw [getD_set hin]
            by_cases hqm : q = m
            · subst hqm
              simp only [if_true, Bool.true_eq_false, false_iff]
              rintro (h | h)
              · exact hmp h
              · exact hir h.1
            · simp only [hqm, if_false]
              rw [s.mem q hq, List.mem_erase_of_ne hqm]
          · exact List.nodup_append.2 ⟨hnd.1, hnd.2.1.erase _, fun a ha b hb => hnd.2.2 a ha b (List.mem_of_mem_erase hb)⟩
          · intro x hx
            obtain ⟨h1, h2, o', d', ho2, hd', ht'⟩ := s.anti x hx
            have hxm : x.1 ≠ m := fun he => hmfl (List.mem_map.2 ⟨_, h2, he⟩)
            refine ⟨(List.mem_erase_of_ne hxm).2 h1, h2, o', d', ho2, hd', ?_⟩
            cases hd : o.dst with
            | none => exact ht'
            | some d =>
              have : d ≠ d' := by
                rintro rfl
                obtain ⟨o3, d3, ho3, hd3, _, _, hfr3, _⟩ := s.flok _ h2
                dsimp only at ho3 hfr3
                rw [ho2] at ho3; cases ho3
                rw [hd'] at hd3; cases hd3
                exact hxm (fresh_dst hfr3 ho hd).symm
              simp [putT, Array.getElem?_setIfInBounds, this, ht']
          · intro x hx hxr o' d' ho2 hd'
            have hxr' := List.mem_of_mem_erase hxr
            have hxm : x.1 ≠ m := fun he => hmfl (List.mem_map.2 ⟨x, hx, he⟩)
            cases hd : o.dst with
            | none => exact s.flun x hx hxr' o' d' ho2 hd'
            | some d =>
              have hne : d' ≠ d := by
                rintro rfl
                obtain ⟨o3, d3, ho3, hd3, _, _, hfr3, _⟩ := s.flok _ hx
                rw [ho2] at ho3; cases ho3
                rw [hd'] at hd3; cases hd3
                exact hxm (fresh_dst hfr3 ho hd).symm
              simp only [putE]
              rw [find_ne hne]
              exact s.flun x hx hxr' o' d' ho2 hd'
          · rintro q (h | h)
            · exact s.inb q (.inl h)
            · exact s.inb q (.inr (List.mem_of_mem_erase h))
          · intro q oq hoq hl ed hed hb
            rw [getD_set hin] at hl ⊢
            by_cases he : ed.on = m
            · simp [he]
            · simp only [he, if_false]
              by_cases hqm : q = m
              · subst hqm
                obtain ⟨o', ho2, _, ha⟩ := mem_ready.1 hr
                rw [hoq] at ho2; cases ho2
                exact ha ed hed hb
              · simp only [hqm, if_false] at hl
                exact s.down q oq hoq hl ed hed hb
          · cases hd : o.dst <;> simp [putT, s.fsize]
          · intro n u hu
            cases hd : o.dst with
            | none =>
              rw [hd] at hu
              exact s.fits n u hu
            | some d =>
              rw [hd] at hu
              simp only [putE] at hu
              have hdN' : d < c.N := by simpa [hd] using hdN
              by_cases hn : n = d
              · subst hn
                rw [find_eq] at hu; cases hu
                left
                simp [putT, s.fsize, hdN']
              · rw [find_ne hn] at hu
                rcases s.fits n u hu with h | x
                · left; simp [putT, Ne.symm hn, h]
                · exact .inr x
          · intro j hj
            obtain ⟨oj, dj, vj, atj, hoj, hdj, hN, hfrj, hfj, hlkj, hqj⟩ := s.quiet j hj
            have hjm : j ≠ m := by rintro rfl; exact hmp hj
            have hlkj' : (j, atj) ∈ unlock l m lk := by
              simp only [unlock, List.mem_filter, Bool.not_eq_true']
              refine ⟨hlkj, ?_⟩
              cases hanc : anc l m j with
              | false => rfl
              | true =>
                have := s.ready_listed hr (anc_sound hanc)
                rw [s.un (.inl hj)] at this
                cases this
            have hqj' : QS c.P l oj e atj g' vj := fun tmps D F w hf hh => hqj tmps D F w hf (hh.le hle')
            cases hd : o.dst with
            | none => exact ⟨oj, dj, vj, atj, hoj, hdj, hN, hfrj, hfj, hlkj', hqj'⟩
            | some d =>
              have hne : dj ≠ d := by
                rintro rfl
                exact hjm (fresh_dst hfrj ho hd).symm
              exact ⟨oj, dj, vj, atj, hoj, hdj, hN, hfrj, by simp only [putE]; rw [find_ne hne]; exact hfj, hlkj', hqj'.cons (s.look hr (hdl d hd) j hj oj hoj)⟩
        obtain ⟨fr', w'', ht, hs⟩ := hK (hle.trans hle') pend ant _ _ w' hs' f' t' hc cs
        exact ⟨fr', w'', ht, hsteps.trans hs⟩
      · have := s.ready_listed hr (anc_sound hax)
        rw [s.un (.inr (hca x hx))] at this
        cases this
      · obtain ⟨y, hy, rfl⟩ := List.mem_map.1 hmf
        obtain ⟨tmps', w', s', hstep⟩ := s.float (k := k) (D := D) (ob := y.2) hy hm hr (Region.linearise.go .any l.toArray f' t' (listed.setIfInBounds y.1 true) []) cs
        obtain ⟨fr', w'', ht, hs⟩ := ih f' hlt _ _ _ tmps' w' s' t' hc cs
        exact ⟨fr', w'', ht, .head hstep hs⟩

theorem RG.eff {i : Nat} {o : Oper} (hif : i ∉ fl.map (·.1)) (ho : l[i]? = some o) (hdN : (o.dst.all fun d => Nat.blt d c.N) = true) (hrest : (rest.all fun m => anc l m i || (fl.map (·.1)).contains m) = true)
    (hlt : (o.dst.all fun d => lateE l (i :: rest) i d) = true) (hg : o.guard = none ∨ ∃ j b s, o.guard = some (j, b) ∧ (l[j]?).bind (·.dst) = some s ∧ find e s = some (.bool b))
    (h : OpOk c D o.op o.type e own g (fun v own' g' => Locks own' (unlock l i lk) ∧ RG c l fl rest (unlock l i lk) k D (putE o.dst v e) own' g')) : RG c l fl (i :: rest) lk k D e own g := by
  refine .effs [i] (by simpa using hif) (by simp) (fun m hm => ?_) (fun j hj => ?_)
  · simp only [List.mem_cons] at hm
    rcases hm with rfl | hm
    · exact .inl (by simp)
    · have := (List.all_eq_true.1 hrest) m hm
      simp only [Bool.or_eq_true, List.contains_iff_mem] at this
      rcases this with h | h
      · exact .inr (.inl ⟨i, by simp, h⟩)
      · exact .inr (.inr h)
  · obtain rfl : j = i := by simpa using hj
    refine ⟨o, ho, hdN, hlt, hg, ?_⟩
    simpa using h

/-- An allocation's turn: it may have been carried out already. -/
theorem RG.float {i d : Nat} {o : Oper} {ob : Obj} (hfl : (i, ob) ∈ fl) (ho : l[i]? = some o) (hd : o.dst = some d) (hrest : (rest.all fun m => anc l m i || (fl.map (·.1)).contains m) = true)
    (hlt : lateE l (i :: rest) i d = true) (h : ∀ b, RG c l fl rest lk k D ((d, .pointer (some ⟨b, 0, none⟩)) :: e) (own ++ [blk b ob]) g) : RG c l fl (i :: rest) lk k D e own g := by
  classical
  intro hle pend ant listed tmps w s fuel
  induction fuel using Nat.strongRecOn generalizing pend ant listed tmps w with
  | _ fuel ih =>
    intro t hfu
    have hnd := List.nodup_append.1 s.nodup
    have hir : i ∉ rest := (List.nodup_cons.1 hnd.2.1).1
    have hip : i ∉ pend := fun hp => hnd.2.2 i hp i (by simp) rfl
    by_cases hia : i ∈ ant.map (·.1)
    · -- it has been carried out
      obtain ⟨x, hx, hxi⟩ := List.mem_map.1 hia
      obtain ⟨h1, h2, o', d', ho', hd', ht'⟩ := s.anti x hx
      have hob : x.2.2 = ob := by
        obtain ⟨o3, d3, ho3, _, _, _, _, _, hr3⟩ := s.flok _ h2
        obtain ⟨o4, d4, ho4, _, _, _, _, _, hr4⟩ := s.flok _ hfl
        dsimp only at ho3 ho4 hr3 hr4
        rw [hxi, ho4] at ho3; cases ho3
        have := (hr3 (fun _ => undef) w).symm.trans (hr4 (fun _ => undef) w)
        have h5 : w.heap.push x.2.2 = w.heap.push ob := by
          injection this with _ hw
          injection hw
        have := congrArg (fun a : Array Obj => a[w.heap.size]?) h5
        simpa using this
      rw [hxi, ho] at ho'; cases ho'
      rw [hd] at hd'; cases hd'
      refine h x.2.1 hle pend (ant.erase x) listed tmps w ?_ fuel t hfu
      have hperm : ant.Perm (x :: ant.erase x) := List.perm_cons_erase hx
      have hand : ((x :: ant.erase x).map (·.1)).Nodup := (hperm.map _).nodup_iff.1 s.andup
      simp only [List.map_cons, List.nodup_cons] at hand
      have hmemA : ∀ q, q ∈ ant.map (·.1) ↔ q = i ∨ q ∈ (ant.erase x).map (·.1) := by
        intro q
        rw [(hperm.map (·.1)).mem_iff]
        simp [hxi]
      refine { size := s.size, mem := ?_, nodup := ?_, andup := hand.2, anti := ?_, flok := s.flok, flun := ?_, inb := ?_, down := s.down, early := s.early, fsize := s.fsize, fits := ?_, quiet := ?_, locks := ?_, holds := ?_ }
      · intro m hm
        rw [s.mem m hm, hmemA]
        simp only [List.mem_cons, not_or]
        constructor
        · rintro (h | ⟨h | h, h2, h3⟩)
          · exact .inl h
          · exact absurd h h2
          · exact .inr ⟨h, h3⟩
        · rintro (h | ⟨h, h3⟩)
          · exact .inl h
          · exact .inr ⟨.inr h, fun he => hir (he ▸ h), h3⟩
      · exact List.nodup_append.2 ⟨hnd.1, (List.nodup_cons.1 hnd.2.1).2, fun a ha b hb => hnd.2.2 a ha b (by simp [hb])⟩
      · intro y hy
        obtain ⟨h1, h2, h3⟩ := s.anti y (List.mem_of_mem_erase hy)
        refine ⟨?_, h2, h3⟩
        simp only [List.mem_cons] at h1
        rcases h1 with h1 | h1
        · have : y.1 ∈ (ant.erase x).map (·.1) := List.mem_map.2 ⟨y, hy, rfl⟩
          rw [h1, ← hxi] at this
          exact absurd this hand.1
        · exact h1
      · intro y hy hyr o' d' ho' hd'
        obtain ⟨o4, d4, ho4, hd4, _, _, hfr4, _⟩ := s.flok _ hfl
        dsimp only at ho4 hfr4
        rw [ho] at ho4; cases ho4
        rw [hd] at hd4; cases hd4
        have hne : d' ≠ d := by
          rintro rfl
          have := fresh_dst hfr4 ho' hd'
          exact hir (this ▸ hyr)
        rw [find_ne hne]
        exact s.flun y hy (by simp [hyr]) o' d' ho' hd'
      · rintro q (h | h)
        · exact s.inb q (.inl h)
        · exact s.inb q (.inr (by simp [h]))
      · intro n u hu
        by_cases hn : n = d
        · subst hn
          rw [find_eq] at hu; cases hu
          exact .inl ht'
        · rw [find_ne hn] at hu
          exact s.fits n u hu
      · intro j hj
        obtain ⟨oj, dj, vj, atj, hoj, hdj, hN, hfrj, hfj, hlkj, hqj⟩ := s.quiet j hj
        have hne : dj ≠ d := by
          rintro rfl
          have := fresh_dst hfrj ho hd
          exact hip (this ▸ hj)
        refine ⟨oj, dj, vj, atj, hoj, hdj, hN, hfrj, by rw [find_ne hne]; exact hfj, hlkj, hqj.cons ?_⟩
        intro hdl
        have hjr : j ∉ i :: rest := fun hx => hnd.2.2 j hj j hx rfl
        have hanc := lateE_of hlt hoj hjr hdl
        -- whoever is ahead of i has been listed: i is listed, and what is listed is closed
        have hil : listed.getD i false = true := by
          cases hq : listed.getD i false with
          | true => rfl
          | false =>
            have := (s.mem i (s.inb i (.inr (by simp)))).1 hq
            rcases this with h | h
            · exact absurd h hip
            · exact absurd hia h.2
        have key : ∀ q, listed.getD q false = true → Anc l j q → listed.getD j false = true := by
          intro q hq ha
          induction ha with
          | edge ho2 he hb hp => exact hp ▸ s.down _ _ ho2 hq _ he hb
          | step ho2 he hb _ ih => exact ih (s.down _ _ ho2 hq _ he hb)
        have := key i hil (anc_sound hanc)
        rw [s.un (.inl hj)] at this
        cases this
      · intro p hp
        obtain ⟨r, hr⟩ := s.locks p hp
        exact ⟨r ++ [blk x.2.1 ob], by rw [← List.append_assoc]; exact hr.append_right _⟩
      · obtain ⟨fr, hs, hg⟩ := s.holds
        refine ⟨fr ++ [(x.2.1, ob)], Sat.append.2 ⟨fr, _, rfl, hs, [(x.2.1, ob)], [], by simp, rfl, rfl⟩, hg.perm ?_⟩
        have h1 : (ant.map (·.2)).Perm ((x.2.1, ob) :: (ant.erase x).map (·.2)) := by
          have := hperm.map (·.2)
          rw [← hob]
          simpa using this
        rw [List.append_assoc]
        refine List.Perm.append_left _ ?_
        simpa using h1.append_right c.F
    · obtain ⟨m, f', t', hr, hgo, hc, hlt2, hin⟩ := s.next (t := t) (i := i) (.inr ⟨by simp, hia⟩) hfu
      rw [hgo]
      intro cs
      rcases s.ready_un hr with hm | hm
      · obtain ⟨tmps', s', hstep⟩ := s.take (k := k) (D := D) hm hr (Region.linearise.go .any l.toArray f' t' (listed.setIfInBounds m true) []) cs
        obtain ⟨fr', w', ht, hs⟩ := ih f' hlt2 _ _ _ tmps' w s' t' hc cs
        exact ⟨fr', w', ht, .head hstep hs⟩
      · have hmf : m ∈ fl.map (·.1) ∨ anc l m i = true := by
          by_cases hmi : m = i
          · subst hmi; exact .inl (List.mem_map.2 ⟨_, hfl, rfl⟩)
          · have hmr : m ∈ rest := by
              have := hm.1
              simp only [List.mem_cons] at this
              exact this.resolve_left hmi
            have := (List.all_eq_true.1 hrest) m hmr
            simp only [Bool.or_eq_true, List.contains_iff_mem] at this
            exact this.symm
        rcases hmf with hmf | hanc
        · obtain ⟨y, hy, rfl⟩ := List.mem_map.1 hmf
          obtain ⟨tmps', w', s', hstep⟩ := s.float (k := k) (D := D) (ob := y.2) hy hm hr (Region.linearise.go .any l.toArray f' t' (listed.setIfInBounds y.1 true) []) cs
          obtain ⟨fr', w'', ht, hs⟩ := ih f' hlt2 _ _ _ tmps' w' s' t' hc cs
          exact ⟨fr', w'', ht, .head hstep hs⟩
        · have := s.ready_listed hr (anc_sound hanc)
          rw [s.un (.inr ⟨by simp, hia⟩)] at this
          cases this


def earlyB (l : List Oper) : Bool := (l.zipIdx).all fun (o, i) => o.after.toList.all fun ed => !Region.binds .any ed || Nat.blt ed.on i
def orderB (n : Nat) (order : List Nat) : Bool := (List.range n).all (fun i => order.count i == 1) && order.all fun i => Nat.blt i n

theorem R.regionDraw {id : Nat} (order : List Nat) (hm : c.P.follows .mixedOrders = true) (hB : (earlyB l && orderB l.length order) = true)
    (fl : List (Nat × Obj)) (hfl : ∀ x ∈ fl, FloatOk c.P c.N l x.1 x.2) (hfe : ∀ x ∈ fl, ∀ o d, l[x.1]? = some o → o.dst = some d → find e d = none)
    (h : RG c l fl order [] k D e own g) : R c (.code (.region id l.toArray true) :: k) D e own g := by
  intro hle tmps w hf hh cs
  simp only [Bool.and_eq_true] at hB
  obtain ⟨hE, hO⟩ := hB
  simp only [orderB, Bool.and_eq_true, List.all_eq_true, List.mem_range, beq_iff_eq] at hO
  have hperm : (List.range l.length).Perm order := by
    rw [List.perm_iff_count]
    intro a
    by_cases ha : a < l.length
    · rw [hO.1 a ha, List.Nodup.count List.nodup_range]; simp [ha]
    · rw [List.count_eq_zero_of_not_mem (by simpa using ha), List.count_eq_zero_of_not_mem]
      intro hm
      have := hO.2 a hm
      simp at this
      exact ha this
  have hlen : order.length = l.length := by simpa using hperm.length_eq.symm
  have hall : ∀ i, i < l.length → i ∈ order := fun i hi => hperm.mem_iff.1 (by simpa using hi)
  have hs : St c l fl order [] e own g [] [] (Array.replicate l.length false) tmps { w with drawn := w.drawn + 1 } := by
    refine { size := by simp, mem := ?_, nodup := by simpa using hperm.nodup_iff.1 List.nodup_range, andup := by simp, anti := by simp, flok := hfl, flun := fun x hx _ o d ho hd => hfe x hx o d ho hd, inb := ?_, down := ?_, early := ?_, fsize := hf.1, fits := fun n v hv => .inl (hf.2 n v hv), quiet := (by simp), locks := (by simp), holds := by simpa using hh.heap (w' := { w with drawn := w.drawn + 1 }) rfl }
    · intro i hi
      simp [hi, hall i hi]
    · intro i hi
      have : i ∈ order := by simpa using hi
      simpa using hperm.mem_iff.2 this
    · intro i o _ hl
      simp [Array.getD] at hl
    · intro i o ho ed hed hb
      have := (List.all_eq_true.1 hE) (o, i) (by rw [List.mem_zipIdx_iff_getElem?]; exact ho)
      have := (List.all_eq_true.1 this) ed hed
      simpa [hb] using this
  obtain ⟨fr', w', ht, hsteps⟩ := h hle [] [] _ tmps _ hs l.length (w.tape w.drawn (.order c.fn id)) (by unfold cnt; have := List.countP_le_length (p := fun i => !(Array.replicate l.length false).getD i false) (l := List.range l.length); simpa using this) cs
  refine ⟨fr', w', ht, .head ?_ hsteps⟩
  rw [Cx.fr, stepR_region_draw]
  simp only [Region.schedule, hm, Bool.true_or, if_true, Region.linearise, List.size_toArray]
  rfl


/-! ### The steps of such a region, checked at its head -/
structure RStep where
  i : Nat
  q : Nat
  keep : List Nat

def idx (s : List RStep) : List Nat := s.map (·.i)
/-- q: 0 an effect, 1 a quiet operation, 2 an allocation that floats. -/
def chk (l : List Oper) (fx : List Nat) : List RStep → Bool
  | [] => true
  | s :: rest => (match l[s.i]? with
    | some o => match s.q with
      | 1 => !fx.contains s.i && (match o.dst with | some d => freshB l s.i d && lateB l (s.i :: idx rest) d | none => false)
      | 0 => !fx.contains s.i && (idx rest).all (fun m => anc l m s.i || fx.contains m) && o.dst.all (fun d => lateE l (s.i :: idx rest) s.i d) &&
          (List.range l.length).all fun j => anc l s.i j || s.keep.contains j || (s.i :: idx rest).contains j
      | 3 => true
      | _ => (match o.dst with | some d => (idx rest).all (fun m => anc l m s.i || fx.contains m) && lateE l (s.i :: idx rest) s.i d | none => false)
    | none => false) && chk l fx rest
def keepL (keep : List Nat) (lk : List (Nat × List HProp)) : List (Nat × List HProp) := lk.filter fun p => keep.contains p.1

theorem RG.lkmono {lk1 lk2 : List (Nat × List HProp)} (hsub : ∀ p ∈ lk2, p ∈ lk1) (hl : Locks own lk1) (h : RG c l fl rest lk1 k D e own g) : RG c l fl rest lk2 k D e own g := by
  intro hle pend ant listed tmps w s fuel t hfu
  refine h hle pend ant listed tmps w { size := s.size, mem := s.mem, nodup := s.nodup, andup := s.andup, anti := s.anti, flok := s.flok, flun := s.flun, inb := s.inb, down := s.down, early := s.early, fsize := s.fsize, fits := s.fits, quiet := ?_, locks := hl.all, holds := s.holds } fuel t hfu
  intro i hi
  obtain ⟨o, d, v, at_, h1, h2, h3, h4, h5, h6, h7⟩ := s.quiet i hi
  exact ⟨o, d, v, at_, h1, h2, h3, h4, h5, hsub _ h6, h7⟩

def RD (c : Cx) (l : List Oper) (fl : List (Nat × Obj)) (rest : List RStep) (lk : List (Nat × List HProp)) (k : List Item) (D : List Deferred) (e : List (Nat × Value)) (own : List HProp) (g : Img) : Prop :=
  chk l (fl.map (·.1)) rest = true → (idx rest).Nodup → (∀ p ∈ lk, p.1 ∉ idx rest ∧ p.1 < l.length) → RG c l fl (idx rest) lk k D e own g

section
variable {rest : List RStep} {i d : Nat} {op : Op} {ty : TypeId} {pos : String} {aft : Array Edge} {v : Value} {j s : Nat} {b : Bool}

theorem R.drawn {id : Nat} (order : List RStep) (fl : List (Nat × Obj)) (hm : c.P.follows .mixedOrders = true) (hB : (earlyB l && orderB l.length (idx order) && chk l (fl.map (·.1)) order) = true)
    (hfl : ∀ x ∈ fl, FloatOk c.P c.N l x.1 x.2) (hfe : ∀ x ∈ fl, ∀ o d, l[x.1]? = some o → o.dst = some d → find e d = none)
    (h : RD c l fl order [] k D e own g) : R c (.code (.region id l.toArray true) :: k) D e own g := by
  simp only [Bool.and_eq_true] at hB
  refine .regionDraw (idx order) hm (by simp [hB.1.1, hB.1.2]) fl hfl hfe (h hB.2 ?_ (by simp))
  have hO := hB.1.2
  simp only [orderB, Bool.and_eq_true, List.all_eq_true, List.mem_range, beq_iff_eq] at hO
  rw [List.nodup_iff_count]
  intro a
  by_cases ha : a < l.length
  · rw [hO.1 a ha]; exact Nat.le_refl 1
  · rw [List.count_eq_zero_of_not_mem]
    · omega
    · intro hm
      have := hO.2 a hm
      simp at this
      omega

theorem RD.nil (h : R c k D e own g) : RD c l fl [] lk k D e own g := fun _ _ _ => .nil h

theorem RD.quiet {o : Oper} {at_ r : List HProp} (ho : l[i]? = some o) (hd : o.dst = some d) (hdN : Nat.blt d c.N = true) (hp : own.Perm (at_ ++ r)) (hq : QS c.P l o e at_ g v)
    (h : RD c l fl rest ((i, at_) :: lk) k D ((d, v) :: e) own g) : RD c l fl (⟨i, 1, []⟩ :: rest) lk k D e own g := by
  intro hc hn hl
  have hil := (List.getElem?_eq_some_iff.1 ho).1
  simp only [chk, ho, hd, Bool.and_eq_true, Bool.not_eq_true'] at hc
  simp only [idx, List.map_cons, List.nodup_cons] at hn
  refine .quiet (by simpa using hc.1.1) ho hd hdN hc.1.2.1 hc.1.2.2 hp hq (h hc.2 hn.2 ?_)
  intro p hp
  simp only [List.mem_cons] at hp
  rcases hp with rfl | hp
  · exact ⟨hn.1, hil⟩
  · have := hl p hp
    exact ⟨fun hm => this.1 (by simp only [idx, List.map_cons, List.mem_cons]; exact .inr hm), this.2⟩

theorem QS.of {P : Program} {o : Oper} {at_ : List HProp} (hw : ∀ tmps, FitL (looks l o) e tmps → Region.wanted o (yielded l.toArray tmps) = true) (hqu : quietly o.op = true) (hq : QOk P o.op o.type e at_ g v) : QS P l o e at_ g v :=
  fun tmps D F w hf hh => .inl ⟨hw tmps hf, hqu, hq tmps D F w hf.op hh o rfl rfl⟩
theorem want_none {o : Oper} (h : o.guard = none) {tmps : Array Value} : Region.wanted o (yielded l.toArray tmps) = true := by simp [Region.wanted, h]
theorem want_some {o : Oper} {tmps : Array Value} (h : o.guard = some (j, b)) (hj : (l[j]?).bind (·.dst) = some s) (hs : find e s = some (.bool b)) (hf : FitL (looks l o) e tmps) : Region.wanted o (yielded l.toArray tmps) = true := by
  have := hf.guard h hj hs
  simp [Region.wanted, h, yielded, hj, this]
theorem QS.off {P : Program} {o : Oper} {u : Value} (h : o.guard = some (j, b)) (hj : (l[j]?).bind (·.dst) = some s) (hs : find e s = some u) (hu : u ≠ .bool b) : QS P l o e [] g undef := by
  intro tmps D F w hf _
  have := hf.guard h hj hs
  refine .inr ⟨?_, rfl⟩
  simp only [Region.wanted, h, yielded, List.getElem?_toArray, hj, Option.bind_some, this]
  cases u <;> simp_all

theorem RD.q0 (ho : l[i]? = some ⟨some d, op, ty, pos, aft, none⟩) (hdN : Nat.blt d c.N = true) (hq : QOk c.P op ty e [] g v) (hqu : quietly op = true) (h : RD c l fl rest ((i, []) :: lk) k D ((d, v) :: e) own g) :
    RD c l fl (⟨i, 1, []⟩ :: rest) lk k D e own g := .quiet (at_ := []) (r := own) ho rfl hdN (.refl own) (.of (fun _ _ => want_none rfl) hqu hq) h
theorem RD.q1 {p : HProp} {r : List HProp} (ho : l[i]? = some ⟨some d, op, ty, pos, aft, none⟩) (hdN : Nat.blt d c.N = true) (ht : Take p own r) (hq : QOk c.P op ty e [p] g v) (hqu : quietly op = true) (h : RD c l fl rest ((i, [p]) :: lk) k D ((d, v) :: e) own g) :
    RD c l fl (⟨i, 1, []⟩ :: rest) lk k D e own g := .quiet (r := r) ho rfl hdN ht.perm (.of (fun _ _ => want_none rfl) hqu hq) h
theorem RD.gq0 (ho : l[i]? = some ⟨some d, op, ty, pos, aft, some (j, b)⟩) (hj : (l[j]?).bind (·.dst) = some s) (hs : find e s = some (.bool b)) (hdN : Nat.blt d c.N = true) (hq : QOk c.P op ty e [] g v) (hqu : quietly op = true) (h : RD c l fl rest ((i, []) :: lk) k D ((d, v) :: e) own g) :
    RD c l fl (⟨i, 1, []⟩ :: rest) lk k D e own g := .quiet (at_ := []) (r := own) ho rfl hdN (.refl own) (.of (fun _ hf => want_some rfl hj hs hf) hqu hq) h
theorem RD.gq1 {p : HProp} {r : List HProp} (ho : l[i]? = some ⟨some d, op, ty, pos, aft, some (j, b)⟩) (hj : (l[j]?).bind (·.dst) = some s) (hs : find e s = some (.bool b)) (hdN : Nat.blt d c.N = true) (ht : Take p own r) (hq : QOk c.P op ty e [p] g v) (hqu : quietly op = true) (h : RD c l fl rest ((i, [p]) :: lk) k D ((d, v) :: e) own g) :
    RD c l fl (⟨i, 1, []⟩ :: rest) lk k D e own g := .quiet (r := r) ho rfl hdN ht.perm (.of (fun _ hf => want_some rfl hj hs hf) hqu hq) h
theorem RD.offF (ho : l[i]? = some ⟨some d, op, ty, pos, aft, some (j, true)⟩) (hj : (l[j]?).bind (·.dst) = some s) (hs : find e s = some (.bool false)) (hdN : Nat.blt d c.N = true) (h : RD c l fl rest ((i, []) :: lk) k D ((d, undef) :: e) own g) :
    RD c l fl (⟨i, 1, []⟩ :: rest) lk k D e own g := .quiet (at_ := []) (r := own) ho rfl hdN (.refl own) (.off rfl hj hs (by simp)) h
theorem RD.offT (ho : l[i]? = some ⟨some d, op, ty, pos, aft, some (j, false)⟩) (hj : (l[j]?).bind (·.dst) = some s) (hs : find e s = some (.bool true)) (hdN : Nat.blt d c.N = true) (h : RD c l fl rest ((i, []) :: lk) k D ((d, undef) :: e) own g) :
    RD c l fl (⟨i, 1, []⟩ :: rest) lk k D e own g := .quiet (at_ := []) (r := own) ho rfl hdN (.refl own) (.off rfl hj hs (by simp)) h
theorem RD.offU (ho : l[i]? = some ⟨some d, op, ty, pos, aft, some (j, b)⟩) (hj : (l[j]?).bind (·.dst) = some s) (hs : find e s = some undef) (hdN : Nat.blt d c.N = true) (h : RD c l fl rest ((i, []) :: lk) k D ((d, undef) :: e) own g) :
    RD c l fl (⟨i, 1, []⟩ :: rest) lk k D e own g := .quiet (at_ := []) (r := own) ho rfl hdN (.refl own) (.off rfl hj hs (by simp [undef])) h

section
variable {t b' off T : Nat} {x : Operand} {cs : List Value} {r : List HProp}
theorem RD.ld [hT : TA c.P t false] (ho : l[i]? = some ⟨some d, .load t x, ty, pos, aft, none⟩) (hdN : Nat.blt d c.N = true) (hx : ev e x = some (.pointer (some ⟨b', off, none⟩))) [ht : Tk b' own T cs r] [hw : Win cs off 1 [v]]
    (h : RD c l fl rest ((i, [cel b' T cs]) :: lk) k D ((d, v) :: e) own g) : RD c l fl (⟨i, 1, []⟩ :: rest) lk k D e own g := .q1 ho hdN ht.take (.loadOwn hx hw) rfl h
theorem RD.ldA {sz by_ : Nat} {zl vs : List Value} [hT : TA c.P t true] [hS : TY c.P t sz by_ zl] (ho : l[i]? = some ⟨some d, .load t x, ty, pos, aft, none⟩) (hdN : Nat.blt d c.N = true) (hx : ev e x = some (.pointer (some ⟨b', off, none⟩))) [ht : Tk b' own T cs r] [hw : Win cs off sz vs]
    (h : RD c l fl rest ((i, [cel b' T cs]) :: lk) k D ((d, .agg vs.toArray) :: e) own g) : RD c l fl (⟨i, 1, []⟩ :: rest) lk k D e own g := .q1 ho hdN ht.take (.loadOwnA hx hw) rfl h
theorem RD.gld [hT : TA c.P t false] (ho : l[i]? = some ⟨some d, .load t x, ty, pos, aft, some (j, b)⟩) (hj : (l[j]?).bind (·.dst) = some s) (hs : find e s = some (.bool b)) (hdN : Nat.blt d c.N = true) (hx : ev e x = some (.pointer (some ⟨b', off, none⟩))) [ht : Tk b' own T cs r] [hw : Win cs off 1 [v]]
    (h : RD c l fl rest ((i, [cel b' T cs]) :: lk) k D ((d, v) :: e) own g) : RD c l fl (⟨i, 1, []⟩ :: rest) lk k D e own g := .gq1 ho hj hs hdN ht.take (.loadOwn hx hw) rfl h
theorem RD.gldA {sz by_ : Nat} {zl vs : List Value} [hT : TA c.P t true] [hS : TY c.P t sz by_ zl] (ho : l[i]? = some ⟨some d, .load t x, ty, pos, aft, some (j, b)⟩) (hj : (l[j]?).bind (·.dst) = some s) (hs : find e s = some (.bool b)) (hdN : Nat.blt d c.N = true) (hx : ev e x = some (.pointer (some ⟨b', off, none⟩))) [ht : Tk b' own T cs r] [hw : Win cs off sz vs]
    (h : RD c l fl rest ((i, [cel b' T cs]) :: lk) k D ((d, .agg vs.toArray) :: e) own g) : RD c l fl (⟨i, 1, []⟩ :: rest) lk k D e own g := .gq1 ho hj hs hdN ht.take (.loadOwnA hx hw) rfl h
end

theorem RD.effO {o : Oper} {keep : List Nat} (ho : l[i]? = some o) (hdN : (o.dst.all fun d => Nat.blt d c.N) = true) (hg : o.guard = none ∨ ∃ j b s, o.guard = some (j, b) ∧ (l[j]?).bind (·.dst) = some s ∧ find e s = some (.bool b))
    (h : OpOk c D o.op o.type e own g (fun v own' g' => Locks own' (keepL keep lk) ∧ RD c l fl rest (keepL keep lk) k D (putE o.dst v e) own' g')) : RD c l fl (⟨i, 0, keep⟩ :: rest) lk k D e own g := by
  intro hc hn hl
  simp only [chk, ho, Bool.and_eq_true, Bool.not_eq_true'] at hc
  simp only [idx, List.map_cons, List.nodup_cons] at hn
  obtain ⟨⟨⟨⟨h0, h1⟩, h2⟩, h3⟩, h4⟩ := hc
  refine .eff (by simpa using h0) ho hdN h1 h2 hg ?_
  intro hle F tmps w hf hh ops i' rest' k' cs o' ho' hop hty hw
  obtain ⟨v, own', g', w', hle', ⟨hlk, hK⟩, hh', hst⟩ := h hle F tmps w hf hh ops i' rest' k' cs o' ho' hop hty hw
  have hsub : ∀ p ∈ unlock l i lk, p ∈ keepL keep lk := by
    intro p hp
    simp only [unlock, List.mem_filter, Bool.not_eq_true'] at hp
    have hpl := hl p hp.1
    have := (List.all_eq_true.1 h3) p.1 (by simpa using hpl.2)
    simp only [hp.2, Bool.false_or, Bool.or_eq_true, List.contains_iff_mem] at this
    simp only [keepL, List.mem_filter]
    refine ⟨hp.1, ?_⟩
    rcases this with h | h
    · simpa using h
    · exact absurd h hpl.1
  have hlk2 : Locks own' (unlock l i lk) := by
    have hall := hlk.all
    have key : ∀ lk2 : List (Nat × List HProp), (∀ p ∈ lk2, p ∈ keepL keep lk) → (∀ p ∈ lk2, ∃ r, Pick own' p.2 r) → Locks own' lk2 := by
      intro lk2
      induction lk2 with
      | nil => intro _ _; exact .nil
      | cons q lk2 ih =>
        intro hs hp
        obtain ⟨r, hr⟩ := hp q (by simp)
        exact .cons hr (ih (fun p hp => hs p (by simp [hp])) (fun p hp' => hp p (by simp [hp'])))
    refine key _ hsub fun p hp => ?_
    have : ∀ {lk3 : List (Nat × List HProp)}, Locks own' lk3 → p ∈ lk3 → ∃ r, Pick own' p.2 r := by
      intro lk3 h3
      induction h3 with
      | nil => intro hm; cases hm
      | cons hpk _ ih =>
        intro hm
        simp only [List.mem_cons] at hm
        rcases hm with rfl | hm
        · exact ⟨_, hpk⟩
        · exact ih hm
    exact this hlk (hsub p hp)
  refine ⟨v, own', g', w', hle', ⟨hlk2, ?_⟩, hh', hst⟩
  refine RG.lkmono hsub hlk (hK h4 hn.2 ?_)
  intro p hp
  simp only [keepL, List.mem_filter] at hp
  have := hl p hp.1
  exact ⟨fun hm => this.1 (by simp only [idx, List.map_cons, List.mem_cons]; exact .inr hm), this.2⟩

theorem RD.ef {keep : List Nat} (ho : l[i]? = some ⟨some d, op, ty, pos, aft, none⟩) (hdN : Nat.blt d c.N = true)
    (h : OpOk c D op ty e own g (fun v own' g' => Locks own' (keepL keep lk) ∧ RD c l fl rest (keepL keep lk) k D ((d, v) :: e) own' g')) : RD c l fl (⟨i, 0, keep⟩ :: rest) lk k D e own g :=
  .effO ho (by simpa using hdN) (.inl rfl) h
theorem RD.ef0 {keep : List Nat} (ho : l[i]? = some ⟨none, op, ty, pos, aft, none⟩)
    (h : OpOk c D op ty e own g (fun _ own' g' => Locks own' (keepL keep lk) ∧ RD c l fl rest (keepL keep lk) k D e own' g')) : RD c l fl (⟨i, 0, keep⟩ :: rest) lk k D e own g :=
  .effO ho rfl (.inl rfl) h
theorem RD.gef {keep : List Nat} (ho : l[i]? = some ⟨some d, op, ty, pos, aft, some (j, b)⟩) (hj : (l[j]?).bind (·.dst) = some s) (hs : find e s = some (.bool b)) (hdN : Nat.blt d c.N = true)
    (h : OpOk c D op ty e own g (fun v own' g' => Locks own' (keepL keep lk) ∧ RD c l fl rest (keepL keep lk) k D ((d, v) :: e) own' g')) : RD c l fl (⟨i, 0, keep⟩ :: rest) lk k D e own g :=
  .effO ho (by simpa using hdN) (.inr ⟨j, b, s, rfl, hj, hs⟩) h
/-- A quiet operation where an effect stands in the order (a variable that is assigned). -/
theorem RD.qe0 {keep : List Nat} (ho : l[i]? = some ⟨some d, op, ty, pos, aft, none⟩) (hdN : Nat.blt d c.N = true) (hq : QOk c.P op ty e [] g v) (hqu : quietly op = true)
    (hl : Locks own (keepL keep lk)) (h : RD c l fl rest (keepL keep lk) k D ((d, v) :: e) own g) : RD c l fl (⟨i, 0, keep⟩ :: rest) lk k D e own g :=
  .ef ho hdN (.of_quiet (at_ := []) (r := own) hqu (.refl own) hq ⟨hl, h⟩)
theorem RD.qe1 {keep : List Nat} {p : HProp} {r : List HProp} (ho : l[i]? = some ⟨some d, op, ty, pos, aft, none⟩) (hdN : Nat.blt d c.N = true) (ht : Take p own r) (hq : QOk c.P op ty e [p] g v) (hqu : quietly op = true)
    (hl : Locks own (keepL keep lk)) (h : RD c l fl rest (keepL keep lk) k D ((d, v) :: e) own g) : RD c l fl (⟨i, 0, keep⟩ :: rest) lk k D e own g :=
  .ef ho hdN (.of_quiet hqu ht.perm hq ⟨hl, h⟩)
/-- An effect that is passed over. -/
theorem RD.eoff {keep : List Nat} {u : Value} (ho : l[i]? = some ⟨some d, op, ty, pos, aft, some (j, b)⟩) (hj : (l[j]?).bind (·.dst) = some s) (hs : find e s = some u) (hu : u ≠ .bool b) (hdN : Nat.blt d c.N = true)
    (hf : (freshB l i d && lateB l (i :: idx rest) d) = true) (h : RD c l fl rest ((i, []) :: lk) k D ((d, undef) :: e) own g) : RD c l fl (⟨i, 0, keep⟩ :: rest) lk k D e own g := by
  intro hc hn hl
  have hil := (List.getElem?_eq_some_iff.1 ho).1
  simp only [chk, ho, Bool.and_eq_true, Bool.not_eq_true'] at hc
  simp only [idx, List.map_cons, List.nodup_cons] at hn
  simp only [Bool.and_eq_true] at hf
  refine RG.quiet (at_ := []) (r := own) (by simpa using hc.1.1.1.1) ho rfl hdN hf.1 hf.2 (.refl own) (.off rfl hj hs hu) (h hc.2 hn.2 ?_)
  intro p hp
  simp only [List.mem_cons] at hp
  rcases hp with rfl | hp
  · exact ⟨hn.1, hil⟩
  · have := hl p hp
    exact ⟨fun hm => this.1 (by simp only [idx, List.map_cons, List.mem_cons]; exact .inr hm), this.2⟩

theorem RG.perm {rest : List Nat} {own' : List HProp} (hp : own.Perm own') (h : RG c l fl rest lk k D e own' g) : RG c l fl rest lk k D e own g := by
  intro hle pend ant listed tmps w s fuel t hfu
  refine h hle pend ant listed tmps w { size := s.size, mem := s.mem, nodup := s.nodup, andup := s.andup, anti := s.anti, flok := s.flok, flun := s.flun, inb := s.inb, down := s.down, early := s.early, fsize := s.fsize, fits := s.fits, quiet := s.quiet, locks := ?_, holds := s.holds.perm hp } fuel t hfu
  intro p hpl
  obtain ⟨r, hr⟩ := s.locks p hpl
  exact ⟨r, hp.symm.trans hr⟩

theorem RD.float {ob : Obj} (hfl : (i, ob) ∈ fl) (ho : l[i]? = some ⟨some d, op, ty, pos, aft, none⟩)
    (h : ∀ b, RD c l fl rest lk k D ((d, .pointer (some ⟨b, 0, none⟩)) :: e) (blk b ob :: own) g) : RD c l fl (⟨i, 2, []⟩ :: rest) lk k D e own g := by
  intro hc hn hl
  have hil := (List.getElem?_eq_some_iff.1 ho).1
  simp only [chk, ho, Bool.and_eq_true] at hc
  simp only [idx, List.map_cons, List.nodup_cons] at hn
  refine RG.float hfl ho rfl hc.1.1 hc.1.2 fun b => RG.perm (List.perm_append_comm.trans (.refl _)) (h b hc.2 hn.2 ?_)
  intro p hp
  have := hl p hp
  exact ⟨fun hm => this.1 (by simp only [idx, List.map_cons, List.mem_cons]; exact .inr hm), this.2⟩

inductive Floats (P : Program) (N : Nat) (l : List Oper) (e : List (Nat × Value)) : List (Nat × Obj) → Prop
  | nil : Floats P N l e []
  | cons {i d T sz by_ : Nat} {zl : List Value} {ty : TypeId} {pos : String} {aft : Array Edge} {fl : List (Nat × Obj)} [hS : TY P T sz by_ zl] (ho : l[i]? = some ⟨some d, .alloc T, ty, pos, aft, none⟩) (hdN : Nat.blt d N = true) (hfr : freshB l i d = true) (hne : find e d = none)
      (t : Floats P N l e fl) : Floats P N l e ((i, .cells zl.toArray T) :: fl)

theorem floatOk {P : Program} {N T sz by_ : Nat} {zl : List Value} {l : List Oper} [hS : TY P T sz by_ zl] (ho : l[i]? = some ⟨some d, .alloc T, ty, pos, aft, none⟩) (hdN : Nat.blt d N = true) (hfr : freshB l i d = true) :
    FloatOk P N l i (.cells zl.toArray T) := by
  obtain ⟨inf, z, hi, _, _, hz, hzl, _⟩ := hS.ex
  refine ⟨_, d, ho, rfl, rfl, hdN, hfr, by simp, fun ρ w => ?_⟩
  simp [execOp, Instr.alloc, zeroValue, typeInfo, hi, hz, newVar, newRow, hzl]

theorem Floats.all (h : Floats c.P c.N l e fl) : (∀ x ∈ fl, FloatOk c.P c.N l x.1 x.2) ∧ (∀ x ∈ fl, ∀ o d, l[x.1]? = some o → o.dst = some d → find e d = none) := by
  induction h with
  | nil => exact ⟨by simp, by simp⟩
  | cons ho hdN hfr hne _ ih =>
    constructor
    · intro x hx
      simp only [List.mem_cons] at hx
      rcases hx with rfl | hx
      · exact floatOk ho hdN hfr
      · exact ih.1 x hx
    · intro x hx o d' ho' hd'
      simp only [List.mem_cons] at hx
      rcases hx with rfl | hx
      · dsimp only at ho'
        rw [ho] at ho'; cases ho'
        cases hd'
        exact hne
      · exact ih.2 x hx o d' ho' hd'

theorem R.draw {id : Nat} (order : List RStep) {fl : List (Nat × Obj)} (hm : c.P.follows .mixedOrders = true) (hF : Floats c.P c.N l e fl) (hB : (earlyB l && orderB l.length (idx order) && chk l (fl.map (·.1)) order) = true)
    (h : RD c l fl order [] k D e own g) : R c (.code (.region id l.toArray true) :: k) D e own g := .drawn order fl hm hB hF.all.1 hF.all.2 h
end

section
variable {x y : Operand} {bop : BinOp} {t yt : TypeId} {kk : IntKind} {a b : Int} {p : Prop} {rest : List RStep} {i d j s : Nat} {ty : TypeId} {pos : String} {aft : Array Edge} {gb : Bool}
theorem RD.cmpS (ho : l[i]? = some ⟨some d, .binOp bop t x y yt, ty, pos, aft, none⟩) (hdN : Nat.blt d c.N = true) (hx : ev e x = some (.int kk a)) (hy : ev e y = some (.int kk b)) (hp : cmpP bop a b = some p)
    (ht : p → RD c l fl rest ((i, []) :: lk) k D ((d, .bool true) :: e) own g) (hf : ¬ p → RD c l fl rest ((i, []) :: lk) k D ((d, .bool false) :: e) own g) : RD c l fl (⟨i, 1, []⟩ :: rest) lk k D e own g := by
  by_cases h : p
  · exact .q0 ho hdN (.cmpT hx hy hp h) rfl (ht h)
  · exact .q0 ho hdN (.cmpF hx hy hp h) rfl (hf h)
theorem RD.gcmpS (ho : l[i]? = some ⟨some d, .binOp bop t x y yt, ty, pos, aft, some (j, gb)⟩) (hj : (l[j]?).bind (·.dst) = some s) (hs : find e s = some (.bool gb)) (hdN : Nat.blt d c.N = true) (hx : ev e x = some (.int kk a)) (hy : ev e y = some (.int kk b)) (hp : cmpP bop a b = some p)
    (ht : p → RD c l fl rest ((i, []) :: lk) k D ((d, .bool true) :: e) own g) (hf : ¬ p → RD c l fl rest ((i, []) :: lk) k D ((d, .bool false) :: e) own g) : RD c l fl (⟨i, 1, []⟩ :: rest) lk k D e own g := by
  by_cases h : p
  · exact .gq0 ho hj hs hdN (.cmpT hx hy hp h) rfl (ht h)
  · exact .gq0 ho hj hs hdN (.cmpF hx hy hp h) rfl (hf h)
end

end Go.Zed
