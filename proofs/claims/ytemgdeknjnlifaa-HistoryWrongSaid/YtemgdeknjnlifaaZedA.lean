/- The base of a small separation logic over the machine: what a frame knows of its slots, what it owns of the heap, what lies still; the judgement R: a frame with this list of things to do comes to its end. -/
import Derived.WalkKit
namespace Go.Zed
open Go

/-! ### Slots -/
def find : List (Nat × Value) → Nat → Option Value
  | [], _ => none
  | (k, v) :: e, n => bif Nat.beq k n then some v else find e n

def Fits (N : Nat) (e : List (Nat × Value)) (tmps : Array Value) : Prop :=
  tmps.size = N ∧ ∀ n v, find e n = some v → tmps[n]? = some v

theorem beq_eq (a b : Nat) : Nat.beq a b = decide (a = b) := by
  by_cases h : a = b
  · simp [h]
  · have : Nat.beq a b = false := by
      cases hh : Nat.beq a b
      · rfl
      · exact absurd (Nat.eq_of_beq_eq_true hh) h
    simp [h, this]

theorem Fits.put {N : Nat} {e : List (Nat × Value)} {tmps : Array Value} {d : Nat} {v : Value} (h : Fits N e tmps) (hd : Nat.blt d N = true) :
    Fits N ((d, v) :: e) (tmps.setIfInBounds d v) := by
  have hd' : d < N := by simpa using hd
  refine ⟨by simp [h.1], fun n u hf => ?_⟩
  simp only [find, beq_eq] at hf
  by_cases hn : d = n
  · subst hn
    simp at hf
    subst hf
    simp [h.1, hd']
  · simp [hn] at hf
    rw [Array.getElem?_setIfInBounds]
    simp [hn, h.2 n u hf]

theorem Fits.sub {N : Nat} {e e' : List (Nat × Value)} {tmps : Array Value} (h : Fits N e tmps) (hs : ∀ n v, find e' n = some v → find e n = some v) : Fits N e' tmps :=
  ⟨h.1, fun n v hf => h.2 n v (hs n v hf)⟩

/-- All that e' says, e says. -/
inductive Sub (e : List (Nat × Value)) : List (Nat × Value) → Prop
  | nil : Sub e []
  | cons {k : Nat} {v : Value} {e' : List (Nat × Value)} (h : find e k = some v) (t : Sub e e') : Sub e ((k, v) :: e')

theorem Sub.all {e e' : List (Nat × Value)} (h : Sub e e') : ∀ n v, find e' n = some v → find e n = some v := by
  induction h with
  | nil => intro n v hf; simp [find] at hf
  | cons hk _ ih =>
    rename_i k u _ _
    intro n v hf
    simp only [find, beq_eq] at hf
    by_cases hn : k = n
    · subst hn; simp at hf; subst hf; exact hk
    · simp [hn] at hf; exact ih n v hf

def ev (e : List (Nat × Value)) : Operand → Option Value
  | .tmp t => find e t
  | .const v => some v
  | .global g => some (.pointer (some ⟨g, 0, none⟩))
  | .func f => some (.func (.func f) #[] #[])

theorem ev_eval {N : Nat} {e : List (Nat × Value)} {tmps : Array Value} {D : List Deferred} {x : Operand} {v : Value} (h : Fits N e tmps) (hx : ev e x = some v) :
    (Act.eval ⟨tmps, D⟩) x = v := by
  cases x with
  | tmp t =>
    have := h.2 t v hx
    simp [Act.eval, Array.getD_eq_getD_getElem?, this]
  | const u => simpa [ev, Act.eval] using hx
  | global g => simpa [ev, Act.eval] using hx
  | func f => simpa [ev, Act.eval] using hx

/-- The slots that an operation reads hold what is known of them. -/
def FitO (op : Op) (e : List (Nat × Value)) (tmps : Array Value) : Prop := ∀ t, Operand.tmp t ∈ op.operands → ∀ v, find e t = some v → tmps[t]? = some v
theorem Fits.op {N : Nat} {e : List (Nat × Value)} {tmps : Array Value} (h : Fits N e tmps) (op : Op) : FitO op e tmps := fun t _ v hv => h.2 t v hv
theorem FitO.ev {op : Op} {e : List (Nat × Value)} {tmps : Array Value} {D : List Deferred} {x : Operand} {v : Value} (h : FitO op e tmps) (hm : x ∈ op.operands) (hx : ev e x = some v) :
    (Act.eval ⟨tmps, D⟩) x = v := by
  cases x with
  | tmp t =>
    have := h t hm v hx
    simp [Act.eval, Array.getD_eq_getD_getElem?, this]
  | const u => simpa [Zed.ev, Act.eval] using hx
  | global g => simpa [Zed.ev, Act.eval] using hx
  | func f => simpa [Zed.ev, Act.eval] using hx

def evs (e : List (Nat × Value)) : List Operand → Option (List Value)
  | [] => some []
  | x :: xs => match ev e x, evs e xs with
    | some v, some vs => some (v :: vs)
    | _, _ => none

theorem evs_map {op : Op} {e : List (Nat × Value)} {tmps : Array Value} {D : List Deferred} (h : FitO op e tmps) : ∀ {xs : List Operand} {vs : List Value}, (∀ x ∈ xs, x ∈ op.operands) → evs e xs = some vs →
    xs.map (Act.eval ⟨tmps, D⟩) = vs
  | [], vs, _, hx => by simp [evs] at hx; simp [hx]
  | x :: xs, vs, hm, hx => by
    simp only [evs] at hx
    cases h1 : Zed.ev e x with
    | none => simp [h1] at hx
    | some v =>
      cases h2 : evs e xs with
      | none => simp [h1, h2] at hx
      | some us =>
        simp [h1, h2] at hx
        subst hx
        simp [h.ev (hm x (by simp)) h1, evs_map h (fun y hy => hm y (by simp [hy])) h2]
theorem evs_mapA {op : Op} {e : List (Nat × Value)} {tmps : Array Value} {D : List Deferred} {xs : List Operand} {vs : List Value} (h : FitO op e tmps) (hm : ∀ x ∈ xs, x ∈ op.operands) (hx : evs e xs = some vs) :
    xs.toArray.map (Act.eval ⟨tmps, D⟩) = vs.toArray := by
  rw [← evs_map (D := D) h hm hx]; simp

/-! ### The heap -/
abbrev Frag := List (Nat × Obj)
abbrev HProp := Frag → Prop
/-- What lies still: rows, the system's side and what was put out. -/
structure Img where
  m : Nat → Option Obj
  os : Os
  out : Array (Nat × ByteArray)
instance : CoeFun Img (fun _ => Nat → Option Obj) := ⟨Img.m⟩

def blk (b : Nat) (o : Obj) : HProp := fun fr => fr = [(b, o)]

def Sat : List HProp → Frag → Prop
  | [], fr => fr = []
  | p :: ps, fr => ∃ f1 f2, fr = f1 ++ f2 ∧ p f1 ∧ Sat ps f2

def Good (g : Img) (fr : Frag) (w : World) : Prop :=
  (∀ b o, g b = some o → w.heap[b]? = some o) ∧ (∀ p ∈ fr, w.heap[p.1]? = some p.2 ∧ g p.1 = none) ∧ (fr.map (·.1)).Nodup ∧ w.os = g.os ∧ w.output = g.out

def Holds (own : List HProp) (F : Frag) (g : Img) (w : World) : Prop := ∃ fr, Sat own fr ∧ Good g (fr ++ F) w

def Le (g g' : Img) : Prop := (∀ b o, g b = some o → g' b = some o) ∧ g'.os = g.os ∧ g'.out = g.out
theorem Le.refl (g : Img) : Le g g := ⟨fun _ _ h => h, rfl, rfl⟩
theorem Le.trans {g g' g'' : Img} (h : Le g g') (h' : Le g' g'') : Le g g'' := ⟨fun b o hb => h'.1 b o (h.1 b o hb), h'.2.1.trans h.2.1, h'.2.2.trans h.2.2⟩

theorem Good.perm {g : Img} {fr fr' : Frag} {w : World} (h : Good g fr w) (hp : fr.Perm fr') : Good g fr' w :=
  ⟨h.1, fun p hp' => h.2.1 p (hp.mem_iff.2 hp'), (hp.map _).nodup_iff.1 h.2.2.1, h.2.2.2⟩

theorem Sat.append {as bs : List HProp} {fr : Frag} : Sat (as ++ bs) fr ↔ ∃ f1 f2, fr = f1 ++ f2 ∧ Sat as f1 ∧ Sat bs f2 := by
  induction as generalizing fr with
  | nil =>
    constructor
    · intro h; exact ⟨[], fr, rfl, rfl, h⟩
    · rintro ⟨f1, f2, rfl, h, h2⟩; obtain rfl : f1 = [] := h; exact h2
  | cons a as ih =>
    simp only [List.cons_append, Sat]
    constructor
    · rintro ⟨f1, f2, rfl, ha, hs⟩
      obtain ⟨f3, f4, rfl, h3, h4⟩ := ih.1 hs
      exact ⟨f1 ++ f3, f4, by simp, ⟨f1, f3, rfl, ha, h3⟩, h4⟩
    · rintro ⟨f1, f2, rfl, ⟨f3, f4, rfl, ha, hs⟩, h2⟩
      exact ⟨f3, f4 ++ f2, by simp, ha, ih.2 ⟨f4, f2, rfl, hs, h2⟩⟩

theorem Sat.perm {as bs : List HProp} (hp : as.Perm bs) : ∀ {fr : Frag}, Sat as fr → ∃ fr', fr.Perm fr' ∧ Sat bs fr' := by
  induction hp with
  | nil => intro fr h; exact ⟨fr, .refl _, h⟩
  | cons x _ ih =>
    rintro fr ⟨f1, f2, rfl, hx, hs⟩
    obtain ⟨f3, hp3, h3⟩ := ih hs
    exact ⟨f1 ++ f3, hp3.append_left _, f1, f3, rfl, hx, h3⟩
  | swap x y l =>
    rintro fr ⟨f1, f2, rfl, hy, f3, f4, rfl, hx, hl⟩
    refine ⟨f3 ++ (f1 ++ f4), ?_, f3, f1 ++ f4, rfl, hx, f1, f4, rfl, hy, hl⟩
    rw [← List.append_assoc, ← List.append_assoc]
    exact List.perm_append_comm.append_right _
  | trans _ _ ih1 ih2 =>
    intro fr h
    obtain ⟨f1, hp1, h1⟩ := ih1 h
    obtain ⟨f2, hp2, h2⟩ := ih2 h1
    exact ⟨f2, hp1.trans hp2, h2⟩

theorem Holds.perm {as bs : List HProp} {F : Frag} {g : Img} {w : World} (h : Holds as F g w) (hp : as.Perm bs) : Holds bs F g w := by
  obtain ⟨fr, hs, hg⟩ := h
  obtain ⟨fr', hp', hs'⟩ := hs.perm hp
  exact ⟨fr', hs', hg.perm (hp'.append_right _)⟩

/-- The second part of what is owned, set aside. -/
theorem Holds.split {as bs : List HProp} {F : Frag} {g : Img} {w : World} (h : Holds (as ++ bs) F g w) : ∃ fb, Sat bs fb ∧ Holds as (fb ++ F) g w := by
  obtain ⟨fr, hs, hg⟩ := h
  obtain ⟨f1, f2, rfl, h1, h2⟩ := Sat.append.1 hs
  exact ⟨f2, h2, f1, h1, by simpa using hg⟩

theorem Holds.join {as bs : List HProp} {F fb : Frag} {g : Img} {w : World} (hb : Sat bs fb) (h : Holds as (fb ++ F) g w) : Holds (as ++ bs) F g w := by
  obtain ⟨f1, h1, hg⟩ := h
  exact ⟨f1 ++ fb, Sat.append.2 ⟨f1, fb, rfl, h1, hb⟩, by simpa using hg⟩

theorem Holds.drop {p : HProp} {own : List HProp} {F : Frag} {g : Img} {w : World} (h : Holds (p :: own) F g w) : Holds own F g w := by
  obtain ⟨fr, ⟨f1, f2, rfl, _, hs⟩, hg⟩ := h
  refine ⟨f2, hs, hg.1, fun q hq => hg.2.1 q ?_, ?_, hg.2.2.2⟩
  · simp only [List.append_assoc, List.mem_append] at hq ⊢; exact .inr hq
  · have := hg.2.2.1
    rw [List.append_assoc, List.map_append] at this
    exact (List.nodup_append.1 this).2.1

theorem Holds.blk {b : Nat} {o : Obj} {own : List HProp} {F : Frag} {g : Img} {w : World} (h : Holds (blk b o :: own) F g w) : w.heap[b]? = some o := by
  obtain ⟨fr, ⟨f1, f2, rfl, rfl, _⟩, hg⟩ := h
  exact (hg.2.1 (b, o) (by simp)).1

theorem Holds.img {own : List HProp} {F : Frag} {g : Img} {w : World} (h : Holds own F g w) {b : Nat} {o : Obj} (hb : g b = some o) : w.heap[b]? = some o := by
  obtain ⟨fr, _, hg⟩ := h
  exact hg.1 b o hb

/-- A world of the same heap serves as well. -/
theorem Holds.heap {own : List HProp} {F : Frag} {g : Img} {w w' : World} (h : Holds own F g w) (hw : w'.heap = w.heap) (ho : w'.os = w.os ∧ w'.output = w.output := by exact ⟨rfl, rfl⟩) : Holds own F g w' := by
  obtain ⟨fr, hs, hg⟩ := h
  exact ⟨fr, hs, by simpa only [Good, hw, ho.1, ho.2] using hg⟩

theorem Holds.alloc {own : List HProp} {F : Frag} {g : Img} {w w' : World} {o : Obj} (h : Holds own F g w) (hw : w'.heap = w.heap.push o) (ho : w'.os = w.os ∧ w'.output = w.output := by exact ⟨rfl, rfl⟩) :
    Holds (Zed.blk w.heap.size o :: own) F g w' := by
  obtain ⟨fr, hs, hg⟩ := h
  refine ⟨(w.heap.size, o) :: fr, ⟨[(w.heap.size, o)], fr, rfl, rfl, hs⟩, ?_, ?_, ?_, ho.1.trans hg.2.2.2.1, ho.2.trans hg.2.2.2.2⟩
  · intro b o' hb
    have := hg.1 b o' hb
    have hlt := (Array.getElem?_eq_some_iff.1 this).1
    rw [hw, Array.getElem?_push]; simp [Nat.ne_of_lt hlt, this]
  · intro p hp
    simp only [List.cons_append, List.mem_cons] at hp
    rcases hp with rfl | hp
    · refine ⟨by simp [hw], ?_⟩
      cases hgb : g w.heap.size with
      | none => rfl
      | some o' =>
        have hlt := (Array.getElem?_eq_some_iff.1 (hg.1 _ _ hgb)).1
        omega
    · have := hg.2.1 p hp
      have hlt := (Array.getElem?_eq_some_iff.1 this.1).1
      refine ⟨?_, this.2⟩
      rw [hw, Array.getElem?_push]; simp [Nat.ne_of_lt hlt, this.1]
  · simp only [List.cons_append, List.map_cons, List.nodup_cons]
    refine ⟨fun hm => ?_, hg.2.2.1⟩
    obtain ⟨p, hp, he⟩ := List.mem_map.1 hm
    have := (Array.getElem?_eq_some_iff.1 (hg.2.1 p hp).1).1
    omega

theorem Holds.set {b : Nat} {o o' : Obj} {own : List HProp} {F : Frag} {g : Img} {w w' : World} (h : Holds (Zed.blk b o :: own) F g w) (hw : w'.heap = w.heap.setIfInBounds b o') (ho : w'.os = w.os ∧ w'.output = w.output := by exact ⟨rfl, rfl⟩) :
    Holds (Zed.blk b o' :: own) F g w' := by
  obtain ⟨fr, ⟨f1, f2, rfl, rfl, hs⟩, hg⟩ := h
  have hb := hg.2.1 (b, o) (by simp)
  have hlt := (Array.getElem?_eq_some_iff.1 hb.1).1
  refine ⟨[(b, o')] ++ f2, ⟨_, f2, rfl, rfl, hs⟩, ?_, ?_, ?_, ho.1.trans hg.2.2.2.1, ho.2.trans hg.2.2.2.2⟩
  · intro c oc hc
    have : b ≠ c := by rintro rfl; rw [hb.2] at hc; cases hc
    rw [hw, Array.getElem?_setIfInBounds]; simp [this, hg.1 c oc hc]
  · intro p hp
    simp only [List.append_assoc, List.cons_append, List.nil_append, List.mem_cons] at hp
    rcases hp with rfl | hp
    · exact ⟨by rw [hw, Array.getElem?_setIfInBounds]; simp [hlt], hb.2⟩
    · have h0 := hg.2.1 p (by simp only [List.append_assoc, List.cons_append, List.nil_append, List.mem_cons]; exact .inr hp)
      have hnd := hg.2.2.1
      simp only [List.append_assoc, List.cons_append, List.nil_append, List.map_cons, List.nodup_cons] at hnd
      have : b ≠ p.1 := fun he => hnd.1 (List.mem_map.2 ⟨p, hp, he.symm⟩)
      refine ⟨?_, h0.2⟩
      rw [hw, Array.getElem?_setIfInBounds]; simp [this, h0.1]
  · have := hg.2.2.1
    simpa using this

/-- An owned block is laid to rest. -/
theorem Holds.freeze {b : Nat} {o : Obj} {own : List HProp} {F : Frag} {g : Img} {w : World} (h : Holds (Zed.blk b o :: own) F g w) :
    Holds own F { g with m := fun x => if x = b then some o else g x } w ∧ Le g { g with m := fun x => if x = b then some o else g x } := by
  obtain ⟨fr, ⟨f1, f2, rfl, rfl, hs⟩, hg⟩ := h
  have hb := hg.2.1 (b, o) (by simp)
  have hnd := hg.2.2.1
  simp only [List.append_assoc, List.cons_append, List.nil_append, List.map_cons, List.nodup_cons] at hnd
  refine ⟨⟨f2, hs, ?_, ?_, hnd.2, hg.2.2.2⟩, ?_, rfl, rfl⟩
  · intro c oc hc
    by_cases he : c = b
    · subst he; simp at hc; subst hc; exact hb.1
    · simp [he] at hc; exact hg.1 c oc hc
  · intro p hp
    have h0 := hg.2.1 p (by simp only [List.append_assoc, List.cons_append, List.nil_append, List.mem_cons]; exact .inr hp)
    have : p.1 ≠ b := fun he => hnd.1 (List.mem_map.2 ⟨p, hp, he⟩)
    exact ⟨h0.1, by simp [this, h0.2]⟩
  · intro c oc hc
    by_cases he : c = b
    · subst he; rw [hb.2] at hc; cases hc
    · simp [he, hc]

/-! ### The judgement -/
structure Cx where
  P : Program
  fn : FuncId
  ro : Option Nat
  N : Nat
  F : Frag
  g0 : Img
  T : Frame → World → Prop

def Cx.base (c : Cx) : Frame := { fn := c.fn, tmps := #[], todo := [], defers := [], mode := .run, kind := .normal, roundOf := c.ro }
def Cx.fr (c : Cx) (tmps : Array Value) (k : List Item) (D : List Deferred) : Frame := c.base.atR ⟨tmps, D⟩ k

def Rch (P : Program) (fr : Frame) (w : World) (T : Frame → World → Prop) : Prop := ∀ cs, ∃ fr' w', T fr' w' ∧ Steps P (lone fr cs w) (lone fr' cs w')

def R (c : Cx) (k : List Item) (D : List Deferred) (e : List (Nat × Value)) (own : List HProp) (g : Img) : Prop :=
  Le c.g0 g → ∀ tmps w, Fits c.N e tmps → Holds own c.F g w → Rch c.P (c.fr tmps k D) w c.T

variable {c : Cx} {k k' : List Item} {D D' : List Deferred} {e e' : List (Nat × Value)} {own own' : List HProp} {g g' : Img}

theorem R.step (h : ∀ tmps w cs, Fits c.N e tmps → step c.P (lone (c.fr tmps k D) cs w) = .next (lone (c.fr tmps k' D) cs w)) (hr : R c k' D e own g) : R c k D e own g := by
  intro hle tmps w hf hh cs
  obtain ⟨fr', w', ht, hs⟩ := hr hle tmps w hf hh cs
  exact ⟨fr', w', ht, .head (h tmps w cs hf) hs⟩

theorem R.sub (hs : Sub e e') (h : R c k D e' own g) : R c k D e own g :=
  fun hle tmps w hf hh => h hle tmps w (hf.sub hs.all) hh

theorem R.perm (hp : own.Perm own') (h : R c k D e own' g) : R c k D e own g :=
  fun hle tmps w hf hh => h hle tmps w hf (hh.perm hp)

theorem R.dropHead {p : HProp} (h : R c k D e own g) : R c k D e (p :: own) g :=
  fun hle tmps w hf hh => h hle tmps w hf hh.drop

theorem R.freeze {b : Nat} {o : Obj} (h : ∀ g', Le g g' → g' b = some o → R c k D e own g') : R c k D e (blk b o :: own) g :=
  fun hle tmps w hf hh => h _ hh.freeze.2 (by simp) (hle.trans hh.freeze.2) tmps w hf hh.freeze.1

theorem R.seq {a b : Code} (h : R c (.code a :: .code b :: k) D e own g) : R c (.code (.seq a b) :: k) D e own g :=
  .step (fun _ _ _ _ => stepR_seq) h
theorem R.skip (h : R c k D e own g) : R c (.code .skip :: k) D e own g := .step (fun _ _ _ _ => stepR_skip) h
theorem R.label {l : Nat} (h : R c k D e own g) : R c (.code (.label l) :: k) D e own g := .step (fun _ _ _ _ => stepR_label) h
theorem R.inBlock {id : Nat} (h : R c k D e own g) : R c (.inBlock id :: k) D e own g := .step (fun _ _ _ _ => stepR_inBlock) h
theorem R.block {id : Nat} {a : Code} (h : R c (.code a :: .inBlock id :: k) D e own g) : R c (.code (.block id a) :: k) D e own g :=
  .step (fun _ _ _ _ => stepR_block) h
theorem R.inLoop {a : Code} (h : R c (.code a :: .inLoop a :: k) D e own g) : R c (.inLoop a :: k) D e own g := .step (fun _ _ _ _ => stepR_inLoop) h
theorem R.loop1 {a : Code} (h : R c (.code a :: .inLoop a :: k) D e own g) : R c (.code (.loop a) :: k) D e own g := .step (fun _ _ _ _ => stepR_loop) h
theorem R.exit {id : Nat} (hx : exitTo id k = some k') (h : R c k' D e own g) : R c (.code (.exit id) :: k) D e own g :=
  .step (fun _ _ _ _ => stepR_exit hx) h
theorem R.cond {x : Operand} {a b : Code} {t : Bool} (hx : ev e x = some (.bool t)) (h : R c (.code (bif t then a else b) :: k) D e own g) : R c (.code (.cond x a b) :: k) D e own g := by
  refine .step (fun tmps w cs hf => ?_) h
  rw [Cx.fr, stepR_cond (t := t) (ev_eval hf hx)]
  cases t <;> rfl
theorem R.condT {x : Operand} {a b : Code} (hx : ev e x = some (.bool true)) (h : R c (.code a :: k) D e own g) : R c (.code (.cond x a b) :: k) D e own g := .cond hx h
theorem R.condF {x : Operand} {a b : Code} (hx : ev e x = some (.bool false)) (h : R c (.code b :: k) D e own g) : R c (.code (.cond x a b) :: k) D e own g := .cond hx h

/-- A loop, by a relation that counts down. -/
theorem R.loop {a : Code} (S : Nat → List (Nat × Value) → List HProp → Img → Prop)
    (round : ∀ n e own g, S n e own g → (∀ m e' own' g', m < n → S m e' own' g' → R c (.inLoop a :: k) D e' own' g') → R c (.code a :: .inLoop a :: k) D e own g)
    (n : Nat) (h0 : S n e own g) : R c (.code (.loop a) :: k) D e own g := by
  refine .loop1 ?_
  have key : ∀ n e own g, S n e own g → R c (.code a :: .inLoop a :: k) D e own g := by
    intro n
    induction n using Nat.strongRecOn with
    | _ n ih => exact fun e own g hS => round n e own g hS fun m e' own' g' hm hS' => .inLoop (ih m hm e' own' g' hS')
  exact key n e own g h0

/-! ### Regions -/
def RO (c : Cx) (ops : Array Oper) (rest : List Oper) (k : List Item) (D : List Deferred) (e : List (Nat × Value)) (own : List HProp) (g : Img) : Prop :=
  ∀ i, ops.toList.drop i = rest → R c (.inRegion ops (List.range' i rest.length) :: k) D e own g

theorem R.region {id : Nat} {l : List Oper} (h : RO c l.toArray l k D e own g) : R c (.code (.region id l.toArray false) :: k) D e own g := by
  refine .step (fun _ _ _ _ => stepR_region) ?_
  have := h 0 (by simp)
  simpa [List.range_eq_range'] using this

theorem RO.nil {ops : Array Oper} (h : R c k D e own g) : RO c ops [] k D e own g := by
  intro i _
  refine .step (fun _ _ _ _ => ?_) h
  exact stepR_region_end (b := c.base)

def putT (d : Option Nat) (v : Value) (tmps : Array Value) : Array Value := match d with | some d => tmps.setIfInBounds d v | none => tmps
def putE (d : Option Nat) (v : Value) (e : List (Nat × Value)) : List (Nat × Value) := match d with | some d => (d, v) :: e | none => e

/-- One operation: it hands back a value, or what it owns and knows otherwise. -/
def OpOk (c : Cx) (D : List Deferred) (op : Op) (ty : TypeId) (e : List (Nat × Value)) (own : List HProp) (g : Img) (K : Value → List HProp → Img → Prop) : Prop :=
  Le c.g0 g → ∀ F tmps w, FitO op e tmps → Holds own F g w →
    ∀ (ops : Array Oper) (i : Nat) (rest : List Nat) (k : List Item) (cs : List Frame) (o : Oper), ops[i]? = some o → o.op = op → o.type = ty →
      Region.wanted o (yielded ops tmps) = true → ∃ v own' g' w', Le g g' ∧ K v own' g' ∧ Holds own' F g' w' ∧
      Steps c.P (lone (c.fr tmps (.inRegion ops (i :: rest) :: k) D) cs w) (lone ((c.fr tmps (.inRegion ops (i :: rest) :: k) D).finish v) cs w')

theorem finish_fr (tmps : Array Value) (ops : Array Oper) (i : Nat) (rest : List Nat) (v : Value) (o : Oper) (ho : ops[i]? = some o) :
    (c.fr tmps (.inRegion ops (i :: rest) :: k) D).finish v = c.fr (putT o.dst v tmps) (.inRegion ops rest :: k) D := by
  rw [Cx.fr, Frame.finish_atR, ho]
  cases h : o.dst <;> simp [Act.put, Cx.fr, h, putT]

theorem Fits.putE {N : Nat} {e : List (Nat × Value)} {tmps : Array Value} {d : Option Nat} {v : Value} (h : Fits N e tmps) (hd : (d.all fun d => Nat.blt d N) = true) :
    Fits N (putE d v e) (putT d v tmps) := by
  cases d with
  | none => exact h
  | some d => exact h.put (by simpa using hd)

theorem drop_cons {α : Type} {l : List α} {i : Nat} {o : α} {rest : List α} (h : l.drop i = o :: rest) : l[i]? = some o ∧ l.drop (i + 1) = rest := by
  constructor
  · have := congrArg (·[0]?) h
    simpa using this
  · rw [← List.drop_drop, h]; rfl

theorem RO.of_op {ops : Array Oper} {o : Oper} {rest : List Oper} (hd : (o.dst.all fun d => Nat.blt d c.N) = true)
    (hw : ∀ tmps, Fits c.N e tmps → Region.wanted o (yielded ops tmps) = true)
    (h : OpOk c D o.op o.type e own g (fun v own' g' => RO c ops rest k D (putE o.dst v e) own' g')) : RO c ops (o :: rest) k D e own g := by
  intro i hi
  obtain ⟨ho, hrest⟩ := drop_cons hi
  have ho' : ops[i]? = some o := by simpa using ho
  intro hle tmps w hf hh cs
  obtain ⟨v, own', g', w', hle', hK, hh', this⟩ := h hle c.F tmps w (hf.op _) hh ops i (List.range' (i + 1) rest.length) k cs o ho' rfl rfl (hw tmps hf)
  have hr := hK (i + 1) hrest (hle.trans hle') _ w' (hf.putE (v := v) hd) hh' cs
  obtain ⟨fr', w'', ht, hs⟩ := hr
  refine ⟨fr', w'', ht, ?_⟩
  rw [finish_fr tmps ops i _ v o ho'] at this
  rw [List.length_cons, List.range'_succ]
  exact this.trans hs

theorem RO.go {ops : Array Oper} {d : Option Nat} {op : Op} {ty : TypeId} {pos : String} {aft : Array Edge} {rest : List Oper} (hd : (d.all fun d => Nat.blt d c.N) = true)
    (h : OpOk c D op ty e own g (fun v own' g' => RO c ops rest k D (putE d v e) own' g')) : RO c ops (⟨d, op, ty, pos, aft, none⟩ :: rest) k D e own g :=
  .of_op hd (fun _ _ => rfl) h

theorem RO.eff {ops : Array Oper} {d : Option Nat} {op : Op} {ty : TypeId} {pos : String} {aft : Array Edge} {rest : List Oper} (hd : (d.all fun d => Nat.blt d c.N) = true)
    (h : OpOk c D op ty e own g (fun v own' g' => RO c ops rest k D (putE d v e) own' g')) : RO c ops (⟨d, op, ty, pos, aft, none⟩ :: rest) k D e own g :=
  .of_op hd (fun _ _ => rfl) h

theorem yielded_of {ops : Array Oper} {j s : Nat} {v : Value} {tmps : Array Value} (hf : Fits c.N e tmps) (hj : (ops[j]?).bind (·.dst) = some s) (hs : find e s = some v) :
    yielded ops tmps j = match v with | .bool b => some b | _ => none := by
  simp only [yielded, hj, Option.bind_some, hf.2 s v hs]
  cases v <;> rfl

theorem RO.guardOn {l : List Oper} {d : Option Nat} {op : Op} {ty : TypeId} {pos : String} {aft : Array Edge} {j s : Nat} {b : Bool} {rest : List Oper} (hd : (d.all fun d => Nat.blt d c.N) = true)
    (hj : (l[j]?).bind (·.dst) = some s) (hs : find e s = some (.bool b))
    (h : OpOk c D op ty e own g (fun v own' g' => RO c l.toArray rest k D (putE d v e) own' g')) : RO c l.toArray (⟨d, op, ty, pos, aft, some (j, b)⟩ :: rest) k D e own g := by
  refine .of_op hd (fun tmps hf => ?_) h
  simp [Region.wanted, yielded_of (ops := l.toArray) (j := j) (s := s) hf (by simpa using hj) hs]

theorem RO.off {ops : Array Oper} {o : Oper} {rest : List Oper} (hd : (o.dst.all fun d => Nat.blt d c.N) = true)
    (hw : ∀ tmps, Fits c.N e tmps → Region.wanted o (yielded ops tmps) = false)
    (h : RO c ops rest k D (putE o.dst undef e) own g) : RO c ops (o :: rest) k D e own g := by
  intro i hi
  obtain ⟨ho, hrest⟩ := drop_cons hi
  have ho' : ops[i]? = some o := by simpa using ho
  intro hle tmps w hf hh cs
  obtain ⟨fr', w'', ht, hs⟩ := h (i + 1) hrest hle _ w (hf.putE (v := undef) hd) hh cs
  refine ⟨fr', w'', ht, ?_⟩
  rw [List.length_cons, List.range'_succ]
  have hstep := stepR_op_skip (P := c.P) (b := c.base) (a := ⟨tmps, D⟩) (k := k) (cs := cs) (w := w) (ops := ops) (i := i) (rest := List.range' (i + 1) rest.length) (by simp [ho', hw tmps hf])
  simp only [ho', Option.bind_some, Act.put] at hstep
  refine .head (by rw [Cx.fr]; exact hstep) ?_
  clear hi ho ho' hrest hd hw h hstep
  obtain ⟨d, op, ty, pos, aft, gu⟩ := o
  cases d <;> exact hs

theorem RO.guardOff {l : List Oper} {d : Option Nat} {op : Op} {ty : TypeId} {pos : String} {aft : Array Edge} {j s : Nat} {b : Bool} {rest : List Oper} (hd : (d.all fun d => Nat.blt d c.N) = true)
    (hj : (l[j]?).bind (·.dst) = some s) (hs : find e s = some (.bool !b))
    (h : RO c l.toArray rest k D (putE d undef e) own g) : RO c l.toArray (⟨d, op, ty, pos, aft, some (j, b)⟩ :: rest) k D e own g := by
  refine .off hd (fun tmps hf => ?_) h
  simp [Region.wanted, yielded_of (ops := l.toArray) (j := j) (s := s) hf (by simpa using hj) hs]

theorem RO.guardNo {l : List Oper} {d : Option Nat} {op : Op} {ty : TypeId} {pos : String} {aft : Array Edge} {j s : Nat} {b : Bool} {rest : List Oper} (hd : (d.all fun d => Nat.blt d c.N) = true)
    (hj : (l[j]?).bind (·.dst) = some s) (hs : find e s = some undef)
    (h : RO c l.toArray rest k D (putE d undef e) own g) : RO c l.toArray (⟨d, op, ty, pos, aft, some (j, b)⟩ :: rest) k D e own g := by
  refine .off hd (fun tmps hf => ?_) h
  simp [Region.wanted, yielded_of (ops := l.toArray) (j := j) (s := s) hf (by simpa using hj) hs, undef]

/-! ### Where an operation leads -/
/-- It hands back a value at once. -/
theorem OpOk.of_run {op : Op} {ty : TypeId} {K : Value → List HProp → Img → Prop}
    (hdef : ∀ cl, op ≠ .defer cl)
    (h : Le c.g0 g → ∀ F tmps w, FitO op e tmps → Holds own F g w → ∃ v own' g' w', Le g g' ∧ K v own' g' ∧ Holds own' F g' w' ∧
      ∀ o : Oper, o.op = op → o.type = ty → (execOp (Act.eval ⟨tmps, D⟩) o).run c.P w = .ok (.value v) w' ∨ (v = undef ∧ (execOp (Act.eval ⟨tmps, D⟩) o).run c.P w = .ok .skip w')) :
    OpOk c D op ty e own g K := by
  intro hle F tmps w hf hh ops i rest k cs o ho hop hty hw
  obtain ⟨v, own', g', w', hle', hK, hh', hrun⟩ := h hle F tmps w hf hh
  refine ⟨v, own', g', w', hle', hK, hh', ?_⟩
  have hg := stepGR_op (P := c.P) (b := c.base) (a := ⟨tmps, D⟩) (k := k) (cs := cs) (w := w) (ops := ops) (i := i) (rest := rest) ho hw
  rw [Oper.semAt_eq _ _ _ (fun cl => hop ▸ hdef cl)] at hg
  refine .one (step_lone_go ?_)
  rw [Cx.fr, hg]
  rcases hrun o hop hty with hr | ⟨hv, hr⟩
  · simp [stepG.apply, hr]
  · subst hv; simp [stepG.apply, hr]

/-! ### Calls -/
def Fc (P : Program) (f : FuncId) (args : Array Value) (own : List HProp) (F : Frag) (g : Img) (Post : Value → List HProp → Img → Prop) : Prop :=
  ∀ w, Holds own F g w → Calls P f args w fun e w' => ∃ v own' g', e = .returned v ∧ Le g g' ∧ Post v own' g' ∧ Holds own' F g' w'

theorem Fc.mono {P : Program} {f : FuncId} {args : Array Value} {own : List HProp} {F : Frag} {g : Img} {Q Q' : Value → List HProp → Img → Prop} (h : Fc P f args own F g Q)
    (hq : ∀ v own' g', Le g g' → Q v own' g' → Q' v own' g') : Fc P f args own F g Q' :=
  fun w hw => (h w hw).mono fun _ _ ⟨v, own', g', he, hle, hQ, hh⟩ => ⟨v, own', g', he, hle, hq v own' g' hle hQ, hh⟩

/-- The operation leads into a function. -/
theorem OpOk.of_enter {op : Op} {ty : TypeId} {K : Value → List HProp → Img → Prop} {f : FuncId} {args : Array Value} {A B : List HProp} {Q : Value → List HProp → Img → Prop}
    (hdef : ∀ cl, op ≠ .defer cl)
    (hen : ∀ F tmps w, FitO op e tmps → Holds own F g w → ∀ o : Oper, o.op = op → o.type = ty → (execOp (Act.eval ⟨tmps, D⟩) o).run c.P w = .ok (.enter f args) w)
    (hp : own.Perm (A ++ B)) (hc : ∀ F, Fc c.P f args A F g Q) (hK : ∀ v own' g', Le g g' → Q v own' g' → K v (own' ++ B) g') :
    OpOk c D op ty e own g K := by
  intro hle F tmps w hf hh ops i rest k cs o ho hop hty hw
  obtain ⟨fb, hsb, hA⟩ := (hh.perm hp).split
  obtain ⟨e, w', fr, ⟨v, own', g', rfl, hle', hQ, hh'⟩, hcomes, _, hleave⟩ := hc (fb ++ F) w hA (c.fr tmps (.inRegion ops (i :: rest) :: k) D :: cs)
  refine ⟨v, own' ++ B, g', w', hle', hK v own' g' hle' hQ, hh'.join hsb, ?_⟩
  have hg := stepGR_op (P := c.P) (b := c.base) (a := ⟨tmps, D⟩) (k := k) (cs := cs) (w := w) (ops := ops) (i := i) (rest := rest) ho hw
  rw [Oper.semAt_eq _ _ _ (fun cl => hop ▸ hdef cl)] at hg
  have henter : step c.P (lone (c.fr tmps (.inRegion ops (i :: rest) :: k) D) cs w) =
      .next (lone (Frame.enter c.P f args .normal) (c.fr tmps (.inRegion ops (i :: rest) :: k) D :: cs) w) :=
    step_lone_go (by rw [Cx.fr, hg]; simp [stepG.apply, hen F tmps w hf hh o hop hty, Frame.atR])
  exact .head henter (Steps.trans hcomes (.one (step_leave_returned hleave)))

/-- The end of a function's frame. -/
def FnT (P : Program) (f : FuncId) (F : Frag) (g : Img) (Post : Value → List HProp → Img → Prop) : Frame → World → Prop :=
  fun fr w' => ∃ v own' g', Le g g' ∧ Post v own' g' ∧ Holds own' F g' w' ∧ fr.fn = f ∧ fr.leaving P w' (.returned v)

@[reducible] def fnCx (P : Program) (f : FuncId) (N : Nat) (F : Frag) (g : Img) (Post : Value → List HProp → Img → Prop) : Cx :=
  { P := P, fn := f, ro := none, N := N, F := F, g0 := g, T := FnT P f F g Post }

def env0 : Nat → List Value → List (Nat × Value)
  | _, [] => []
  | n, v :: vs => (n, v) :: env0 (n + 1) vs

theorem find_env0 : ∀ (vs : List Value) (n m : Nat) (v : Value), find (env0 n vs) m = some v → n ≤ m ∧ vs[m - n]? = some v
  | [], _, _, _, h => by simp [env0, find] at h
  | u :: vs, n, m, v, h => by
    simp only [env0, find, beq_eq] at h
    by_cases hn : n = m
    · subst hn; simp at h; subst h; simp
    · simp only [hn, decide_false, cond_false] at h
      have := find_env0 vs (n + 1) m v h
      refine ⟨by omega, ?_⟩
      have e : m - n = (m - (n + 1)) + 1 := by omega
      rw [e, List.getElem?_cons_succ]; exact this.2

/-- Into a function. -/
theorem Fc.of_body {P : Program} {f : FuncId} {fn : Func} {code : Code} {args : List Value} {own : List HProp} {F : Frag} {g : Img} {Post : Value → List HProp → Img → Prop}
    (hf : P.funcs[f]? = some fn) (hb : fn.body = some code) (hn : (Nat.ble args.length fn.ntmps) = true)
    (h : R (fnCx P f fn.ntmps F g Post) [.code code] [] (env0 0 args) own g) : Fc P f args.toArray own F g Post := by
  intro w hh cs
  have hn' : args.length ≤ fn.ntmps := Nat.le_of_ble_eq_true hn
  let tmps : Array Value := args.toArray ++ Array.replicate (fn.ntmps - args.length) undef
  have hfit : Fits fn.ntmps (env0 0 args) tmps := by
    refine ⟨by simp [tmps]; omega, fun n v hfd => ?_⟩
    have := (find_env0 args 0 n v hfd).2
    simp only [Nat.sub_zero] at this
    have hlt := (List.getElem?_eq_some_iff.1 this).1
    rw [List.getElem?_eq_getElem hlt] at this
    simp [tmps, Array.getElem?_append, hlt, Option.some.inj this]
  obtain ⟨fr', w', ⟨v, own', g', hle, hP, hh', hfn, hleave⟩, hs⟩ := h (Le.refl g) tmps w hfit hh cs
  refine ⟨.returned v, w', fr', ⟨v, own', g', rfl, hle, hP, hh'⟩, ?_, hfn, hleave⟩
  have henter : Frame.enter P f args.toArray .normal = (fnCx P f fn.ntmps F g Post).fr tmps [.code code] [] := by
    simp [Frame.enter, hf, hb, Cx.fr, Cx.base, Frame.atR, fnCx, tmps]
  rw [henter]
  exact hs

/-- The results of a function, one by one. -/
inductive Res (P : Program) (e : List (Nat × Value)) (own : List HProp) (g : Img) : List ResultVar → List Value → Prop
  | nil : Res P e own g [] []
  | tmp {t : Nat} {v : Value} {rs : List ResultVar} {vs : List Value} (h : find e t = some v) (r : Res P e own g rs vs) : Res P e own g (.tmp t :: rs) (v :: vs)
  | cell {t ty : Nat} {a : Addr} {v : Value} {rs : List ResultVar} {vs : List Value} (h : find e t = some (.pointer (some a)))
      (hl : ∀ F w, Holds own F g w → (loadVar ty a).run P w = .ok v w) (r : Res P e own g rs vs) : Res P e own g (.cell t ty :: rs) (v :: vs)

def packed : List Value → Value
  | [v] => v
  | vs => .tuple vs.toArray

def resOf (tmps : Array Value) : ResultVar → Sem Value
  | .tmp t => pure (tmps.getD t undef)
  | .cell a t => do loadVar t (← asAddr (tmps.getD a undef))

theorem results_eq (fn : Func) (tmps : Array Value) : results fn tmps = (do let vs ← fn.results.mapM (resOf tmps); pure (if h : vs.size = 1 then vs[0] else .tuple vs)) := by
  unfold results
  congr 1

theorem mapM_list (P : Program) (tmps : Array Value) (w : World) (rs : List ResultVar) (vs : List Value) {N : Nat} (hf : Fits N e tmps) {F : Frag} (hh : Holds own F g w)
    (h : Res P e own g rs vs) : (rs.mapM (resOf tmps)).run P w = .ok vs w := by
  induction h with
  | nil => rfl
  | @tmp t v _ _ ht _ ih =>
    have := hf.2 _ _ ht
    have h1 : (resOf tmps (.tmp t)).run P w = .ok v w := by rw [resOf, Array.getD_eq_getD_getElem?, this]; rfl
    simp only [List.mapM_cons, Sem.run_bind]
    rw [h1, Result.andThen_ok, ih]
    rfl
  | @cell t ty a v _ _ ht hl _ ih =>
    have := hf.2 _ _ ht
    have h1 : (resOf tmps (.cell t ty)).run P w = .ok v w := by
      rw [resOf, Array.getD_eq_getD_getElem?, this]
      simp only [Option.getD_some, Sem.run_bind]
      rw [show asAddr (.pointer (some _)) = pure _ from rfl, Sem.run_pure, Result.andThen_ok]
      exact hl _ w hh
    simp only [List.mapM_cons, Sem.run_bind]
    rw [h1, Result.andThen_ok, ih]
    rfl

theorem R.ret {P : Program} {f : FuncId} {fn : Func} {N : Nat} {F : Frag} {g0 : Img} {Post : Value → List HProp → Img → Prop} {k : List Item} {e : List (Nat × Value)} {own : List HProp} {g : Img} {rs : List ResultVar} {vs : List Value}
    (hf : P.funcs[f]? = some fn) (hr : fn.results = rs.toArray) (hres : Res P e own g rs vs) (hP : Le g0 g → Post (packed vs) own g) :
    R (fnCx P f N F g0 Post) (.code .ret :: k) [] e own g := by
  intro hle tmps w hfit hh cs
  refine ⟨{ (fnCx P f N F g0 Post).fr tmps (.code .ret :: k) [] with mode := .returning }, w, ⟨packed vs, own, g, hle, hP hle, hh, rfl, rfl, rfl, rfl, fn, hf, ?_⟩, .one (stepR_ret rfl)⟩
  have hm := mapM_list P tmps w rs vs hfit hh hres
  have : (results fn tmps).run P w = .ok (packed vs) w := by
    rw [results_eq, hr, List.mapM_toArray]
    simp only [Sem.run_bind, Sem.run_map]
    rw [hm]
    simp only [Result.andThen_ok, Sem.run_pure]
    match vs with
    | [] => rfl
    | [v] => rfl
    | _ :: _ :: _ => simp [packed]
  exact this

end Go.Zed
