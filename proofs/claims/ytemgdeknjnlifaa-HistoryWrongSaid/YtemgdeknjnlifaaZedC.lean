/- The operations that make, read and write cells; calls; slices that are owned, and slices that lie still. -/
import Derived.Test.YtemgdeknjnlifaaZedB
namespace Go.Zed
open Go

variable {c : Cx} {k k' : List Item} {D D' : List Deferred} {e e' : List (Nat × Value)} {own own' : List HProp} {g g' : Img} {ty : TypeId} {K : Value → List HProp → Img → Prop}

/-! ### Lists -/
inductive Take (p : HProp) : List HProp → List HProp → Prop
  | here {l : List HProp} : Take p (p :: l) l
  | there {q : HProp} {l l' : List HProp} (h : Take p l l') : Take p (q :: l) (q :: l')
theorem Take.perm {p : HProp} {l l' : List HProp} (h : Take p l l') : l.Perm (p :: l') := by
  induction h with
  | here => exact .refl _
  | there _ ih => exact (ih.cons _).trans (.swap _ _ _)

inductive Upd (p p' : HProp) : List HProp → List HProp → Prop
  | here {l : List HProp} : Upd p p' (p :: l) (p' :: l)
  | there {q : HProp} {l l' : List HProp} (h : Upd p p' l l') : Upd p p' (q :: l) (q :: l')
theorem Upd.perm {p p' : HProp} {l l' : List HProp} (h : Upd p p' l l') : ∃ r, l.Perm (p :: r) ∧ (p' :: r).Perm l' := by
  induction h with
  | here => exact ⟨_, .refl _, .refl _⟩
  | there _ ih =>
    obtain ⟨r, h1, h2⟩ := ih
    exact ⟨_ :: r, (h1.cons _).trans (.swap _ _ _), (List.Perm.swap _ _ _).trans (h2.cons _)⟩

inductive Pick : List HProp → List HProp → List HProp → Prop
  | nil {l : List HProp} : Pick l [] l
  | cons {p : HProp} {l l' A B : List HProp} (t : Take p l l') (h : Pick l' A B) : Pick l (p :: A) B
theorem Pick.perm {l A B : List HProp} (h : Pick l A B) : l.Perm (A ++ B) := by
  induction h with
  | nil => exact .refl _
  | cons t _ ih => exact t.perm.trans (ih.cons _)

theorem Holds.pick {A B : List HProp} {F : Frag} {w : World} (h : Holds own F g w) (hp : Pick own A B) : Holds A F g w := by
  have h' := (h.perm hp.perm).perm List.perm_append_comm
  clear h hp
  induction B with
  | nil => exact h'
  | cons b B ih => exact ih h'.drop

theorem R.pick {A B : List HProp} (hp : Pick own A B) (h : R c k D e A g) : R c k D e own g :=
  fun hle tmps w hf hh => h hle tmps w hf (hh.pick hp)
theorem R.only (h : R c k D e [] g) : R c k D e own g := .pick .nil h

class inductive Win : List Value → Nat → Nat → outParam (List Value) → Prop
  | nil {l : List Value} : Win l 0 0 []
  | take {v : Value} {l vs : List Value} {n : Nat} (h : Win l 0 n vs) : Win (v :: l) 0 (n + 1) (v :: vs)
  | skip {v : Value} {l vs : List Value} {o n : Nat} (h : Win l o n vs) : Win (v :: l) (o + 1) n vs
instance {l : List Value} : Win l 0 0 [] := .nil
instance {v : Value} {l vs : List Value} {o n : Nat} [h : Win l o n vs] : Win (v :: l) (o + 1) n vs := .skip h
instance {v : Value} {l vs : List Value} {n : Nat} [h : Win l 0 n vs] : Win (v :: l) 0 (n + 1) (v :: vs) := .take h
theorem Win.get {l vs : List Value} {o n : Nat} (h : Win l o n vs) : vs.length = n ∧ ∀ j v, vs[j]? = some v → l[o + j]? = some v := by
  induction h with
  | nil => exact ⟨rfl, fun j v hv => by simp at hv⟩
  | take _ ih =>
    refine ⟨by simp [ih.1], fun j v hv => ?_⟩
    cases j with
    | zero => simpa using hv
    | succ j => have := ih.2 j v (by simpa using hv); simpa using this
  | @skip v l vs o n _ ih =>
    refine ⟨ih.1, fun j v hv => ?_⟩
    have := ih.2 j v hv
    have e : o + 1 + j = (o + j) + 1 := by omega
    rw [e, List.getElem?_cons_succ]; exact this

class inductive SetW : List Value → Nat → List Value → outParam (List Value) → Prop
  | nil {l : List Value} : SetW l 0 [] l
  | put {u v : Value} {l vs l' : List Value} (h : SetW l 0 vs l') : SetW (u :: l) 0 (v :: vs) (v :: l')
  | skip {u : Value} {l vs l' : List Value} {o : Nat} (h : SetW l o vs l') : SetW (u :: l) (o + 1) vs (u :: l')
instance {l : List Value} : SetW l 0 [] l := .nil
instance {u : Value} {l vs l' : List Value} {o : Nat} [h : SetW l o vs l'] : SetW (u :: l) (o + 1) vs (u :: l') := .skip h
instance {u v : Value} {l vs l' : List Value} [h : SetW l 0 vs l'] : SetW (u :: l) 0 (v :: vs) (v :: l') := .put h
/-- The cells of a value. -/
class Cells (v : Value) (vs : outParam (List Value)) : Prop where eq : v.cells = vs.toArray
instance {a : List Value} : Cells (.agg a.toArray) a := ⟨rfl⟩
instance {k : IntKind} {n : Int} : Cells (.int k n) [.int k n] := ⟨rfl⟩
instance {b : Bool} : Cells (.bool b) [.bool b] := ⟨rfl⟩
instance {s : ByteArray} : Cells (.string s) [.string s] := ⟨rfl⟩
instance {a : Option Addr} : Cells (.pointer a) [.pointer a] := ⟨rfl⟩
instance {a : Option Addr} {n m : Nat} : Cells (.slice a n m) [.slice a n m] := ⟨rfl⟩
instance {r : Option Nat} : Cells (.map r) [.map r] := ⟨rfl⟩
instance {f : Go.Fn} {a b : Array Value} : Cells (.func f a b) [.func f a b] := ⟨rfl⟩
instance : Cells .nilFunc [.nilFunc] := ⟨rfl⟩
class inductive Len : List Value → outParam Nat → Prop
  | nil : Len [] 0
  | cons {v : Value} {l : List Value} {n : Nat} (h : Len l n) : Len (v :: l) (n + 1)
instance : Len [] 0 := .nil
instance {v : Value} {l : List Value} {n : Nat} [h : Len l n] : Len (v :: l) (n + 1) := .cons h
theorem Len.eq {l : List Value} {n : Nat} (h : Len l n) : l.length = n := by induction h with | nil => rfl | cons _ ih => simp [ih]
theorem SetW.eq {l vs l' : List Value} {o : Nat} (h : SetW l o vs l') : l' = l.take o ++ vs ++ l.drop (o + vs.length) ∧ o + vs.length ≤ l.length := by
  induction h with
  | nil => simp
  | @put u v l vs l' _ ih =>
    refine ⟨?_, by have := ih.2; simp at this ⊢; omega⟩
    have e : 0 + (v :: vs).length = (0 + vs.length) + 1 := by simp
    rw [e, List.drop_succ_cons]
    have := ih.1
    simp only [List.take_zero, List.nil_append] at this ⊢
    rw [List.cons_append, ← this]
  | @skip u l vs l' o _ ih =>
    refine ⟨?_, by have := ih.2; simp at this ⊢; omega⟩
    have e : o + 1 + vs.length = (o + vs.length) + 1 := by omega
    rw [e, List.drop_succ_cons, List.take_succ_cons, List.cons_append, List.cons_append, ← ih.1]

@[reducible] def cel (b T : Nat) (l : List Value) : HProp := blk b (.cells l.toArray T (0, 0))

/-- The cells of an owned block; what is owned besides. -/
class inductive Tk (b : Nat) : List HProp → outParam Nat → outParam (List Value) → outParam (List HProp) → Prop
  | there {q : HProp} {own r : List HProp} {T : Nat} {l : List Value} (h : Tk b own T l r) : Tk b (q :: own) T l (q :: r)
  | here {T : Nat} {l : List Value} {r : List HProp} : Tk b (cel b T l :: r) T l r
instance {b : Nat} {q : HProp} {own r : List HProp} {T : Nat} {l : List Value} [h : Tk b own T l r] : Tk b (q :: own) T l (q :: r) := .there h
instance {b T : Nat} {l : List Value} {r : List HProp} : Tk b (cel b T l :: r) T l r := .here
theorem Tk.take {b T : Nat} {own r : List HProp} {l : List Value} (h : Tk b own T l r) : Take (cel b T l) own r := by
  induction h with
  | here => exact .here
  | there _ ih => exact .there ih
/-- The same, with what is owned once the cells have turned. -/
class inductive Up (b : Nat) : List HProp → outParam Nat → outParam (List Value) → outParam (List Value → List HProp) → Prop
  | there {q : HProp} {own : List HProp} {T : Nat} {l : List Value} {f : List Value → List HProp} (h : Up b own T l f) : Up b (q :: own) T l (fun x => q :: f x)
  | here {T : Nat} {l : List Value} {r : List HProp} : Up b (cel b T l :: r) T l (fun x => cel b T x :: r)
instance {b : Nat} {q : HProp} {own : List HProp} {T : Nat} {l : List Value} {f : List Value → List HProp} [h : Up b own T l f] : Up b (q :: own) T l (fun x => q :: f x) := .there h
instance {b T : Nat} {l : List Value} {r : List HProp} : Up b (cel b T l :: r) T l (fun x => cel b T x :: r) := .here
theorem Up.upd {b T : Nat} {own : List HProp} {l : List Value} {f : List Value → List HProp} (h : Up b own T l f) (l' : List Value) : Upd (cel b T l) (cel b T l') own (f l') := by
  induction h with
  | here => exact .here
  | there _ ih => exact .there ih

/-! ### Reading -/
def Reads (own : List HProp) (g : Img) (b off : Nat) (vs : List Value) : Prop :=
  ∀ F w, Holds own F g w → ∀ j v, vs[j]? = some v → w.cell? ((⟨b, off, none⟩ : Addr).add j) = some v

theorem Reads.ofOwn {b T off n : Nat} {l vs : List Value} {r : List HProp} (ht : Take (cel b T l) own r) (hw : Win l off n vs) : Reads own g b off vs := by
  intro F w hh j v hv
  have := (hh.perm ht.perm).blk
  rw [add0]
  simp [World.cell?, this, hw.get.2 j v hv]

def Mem (g : Img) (b off : Nat) (vs : List Value) : Prop := ∃ cs T fr, g b = some (.cells cs T fr) ∧ ∀ j v, vs[j]? = some v → cs[off + j]? = some v
theorem Mem.mono {b off : Nat} {vs : List Value} (h : Mem g b off vs) (hl : Le g g') : Mem g' b off vs := by
  obtain ⟨cs, T, fr, hg, hc⟩ := h
  exact ⟨cs, T, fr, hl.1 _ _ hg, hc⟩
theorem Mem.reads {b off : Nat} {vs : List Value} (h : Mem g b off vs) : Reads own g b off vs := by
  intro F w hh j v hv
  obtain ⟨cs, T, fr, hg, hc⟩ := h
  rw [add0]
  simp [World.cell?, hh.img hg, hc j v hv]
theorem Mem.at {b off i : Nat} {vs : List Value} {v : Value} (h : Mem g b off vs) (hi : vs[i]? = some v) : Reads own g b (off + i) [v] := by
  intro F w hh j u hu
  cases j with
  | zero =>
    have := h.reads (own := own) F w hh i v hi
    rw [add0] at this ⊢
    simpa using hu ▸ this
  | succ j => simp at hu

theorem loadCells_run {P : Program} {w : World} {a : Addr} {vs : List Value} (h : ∀ j v, vs[j]? = some v → w.cell? (a.add j) = some v) : (loadCells a vs.length).run P w = .ok vs.toArray w :=
  run_loadCells_list (P := P) w a vs h

section
variable {P : Program} {x : Operand} {v : Value}
theorem QOk.load {t : TypeId} {b off : Nat} {at_ : List HProp} [hT : TA P t false] (hx : ev e x = some (.pointer (some ⟨b, off, none⟩)))
    (hr : Reads at_ g b off [v]) : QOk P (.load t x) ty e at_ g v := by
  intro _ _ _ w hf hh o ho _
  have := hr _ w hh 0 v rfl
  rw [add0, Nat.add_zero] at this
  simp [execOp, ho, hf.ev (by simp [Op.operands]) hx, Instr.loadAt, Instr.sureAddr, loadVar, hT.run, this]

theorem QOk.loadA {t : TypeId} {b off sz by_ : Nat} {zl vs : List Value} {at_ : List HProp} [hT : TA P t true] [hS : TY P t sz by_ zl] (hx : ev e x = some (.pointer (some ⟨b, off, none⟩)))
    (hr : Reads at_ g b off vs) (hn : vs.length = sz) : QOk P (.load t x) ty e at_ g (.agg vs.toArray) := by
  intro _ _ _ w hf hh o ho _
  subst hn
  have := loadCells_run (P := P) (hr _ w hh)
  simp [execOp, ho, hf.ev (by simp [Op.operands]) hx, Instr.loadAt, Instr.sureAddr, loadVar, hT.run, hS.run, this]

theorem QOk.loadOwn {t : TypeId} {b off T : Nat} {l : List Value} [hT : TA P t false] (hx : ev e x = some (.pointer (some ⟨b, off, none⟩)))
    (hw : Win l off 1 [v]) : QOk P (.load t x) ty e [cel b T l] g v := .load hx (.ofOwn .here hw)
theorem QOk.loadOwnA {t : TypeId} {b off T sz by_ : Nat} {zl l vs : List Value} [hT : TA P t true] [hS : TY P t sz by_ zl] (hx : ev e x = some (.pointer (some ⟨b, off, none⟩)))
    (hw : Win l off sz vs) : QOk P (.load t x) ty e [cel b T l] g (.agg vs.toArray) := .loadA hx (.ofOwn .here hw) hw.get.1
theorem QOk.ldO {t : TypeId} {b off T : Nat} {l : List Value} [hT : TA P t false] (hx : ev e x = some (.pointer (some ⟨b, off, none⟩)))
    [hw : Win l off 1 [v]] : QOk P (.load t x) ty e [cel b T l] g v := .loadOwn hx hw
theorem QOk.loadMem {t : TypeId} {b off i : Nat} {vs : List Value} [hT : TA P t false] (hx : ev e x = some (.pointer (some ⟨b, off + i, none⟩)))
    (hm : Mem g b off vs) (hi : vs[i]? = some v) : QOk P (.load t x) ty e [] g v := .load hx (hm.at hi)
theorem QOk.loadMem0 {t : TypeId} {b off : Nat} {vs : List Value} [hT : TA P t false] (hx : ev e x = some (.pointer (some ⟨b, off, none⟩)))
    (hm : Mem g b off (v :: vs)) : QOk P (.load t x) ty e [] g v := .load hx (hm.at (i := 0) rfl)
theorem QOk.loadMemA {t : TypeId} {b off sz by_ : Nat} {zl vs : List Value} [hT : TA P t true] [hS : TY P t sz by_ zl] (hx : ev e x = some (.pointer (some ⟨b, off, none⟩)))
    (hm : Mem g b off vs) (hn : vs.length = sz) : QOk P (.load t x) ty e [] g (.agg vs.toArray) := .loadA hx hm.reads hn
end

/-- A result that lies in a cell. -/
theorem Res.cell1 {P : Program} {t T : Nat} {b off : Nat} {v : Value} {rs : List ResultVar} {vs : List Value} [hT : TA P T false] (h : find e t = some (.pointer (some ⟨b, off, none⟩)))
    (hr : Reads own g b off [v]) (r : Res P e own g rs vs) : Res P e own g (.cell t T :: rs) (v :: vs) := by
  refine .cell h (fun F w hh => ?_) r
  have := hr _ w hh 0 v rfl
  rw [add0, Nat.add_zero] at this
  simp [loadVar, hT.run, this]
theorem Res.cellA {P : Program} {t T : Nat} {b off sz by_ : Nat} {zl us : List Value} {rs : List ResultVar} {vs : List Value} [hT : TA P T true] [hS : TY P T sz by_ zl] (h : find e t = some (.pointer (some ⟨b, off, none⟩)))
    (hr : Reads own g b off us) (hn : us.length = sz) (r : Res P e own g rs vs) : Res P e own g (.cell t T :: rs) (.agg us.toArray :: vs) := by
  refine .cell h (fun F w hh => ?_) r
  subst hn
  have := loadCells_run (P := P) (hr _ w hh)
  simp [loadVar, hT.run, hS.run, this]

/-! ### Making and writing -/
theorem OpOk.of_alloc {op : Op} {o : Obj} (hdef : ∀ cl, op ≠ .defer cl) {v : Nat → Value}
    (h : ∀ F tmps w, FitO op e tmps → Holds own F g w → ∀ oo : Oper, oo.op = op → oo.type = ty → ∃ w', (w'.heap = w.heap.push o ∧ w'.os = w.os ∧ w'.output = w.output) ∧ (execOp (Act.eval ⟨tmps, D⟩) oo).run c.P w = .ok (.value (v w.heap.size)) w')
    (hpos : ∀ oo1 oo2 : Oper, oo1.op = op → oo2.op = op → oo1.type = ty → oo2.type = ty → ∀ ρ w, (execOp ρ oo1).run c.P w = (execOp ρ oo2).run c.P w)
    (hK : ∀ b, K (v b) (blk b o :: own) g) : OpOk c D op ty e own g K := by
  intro hle F tmps w hf hh ops i rest k cs oo ho hop hty hw
  refine (OpOk.of_run (c := c) (D := D) (op := op) (ty := ty) (e := e) (own := own) (g := g) (K := K) hdef (fun _ F tmps w hf hh => ?_)) hle F tmps w hf hh ops i rest k cs oo ho hop hty hw
  obtain ⟨w', hw', hr⟩ := h F tmps w hf hh oo hop hty
  exact ⟨v w.heap.size, _, g, w', Le.refl g, hK _, hh.alloc hw'.1 hw'.2, fun o2 ho2 ht2 => .inl ((hpos o2 oo ho2 hop ht2 hty _ _).trans hr)⟩

theorem OpOk.alloc {T sz by_ : Nat} {zl : List Value} [hS : TY c.P T sz by_ zl] (hK : ∀ b, K (.pointer (some ⟨b, 0, none⟩)) (cel b T zl :: own) g) : OpOk c D (.alloc T) ty e own g K := by
  refine .of_alloc (v := fun b => .pointer (some ⟨b, 0, none⟩)) (by simp) (fun F _ w hf hh o ho _ => ?_) (fun a b ha hb _ _ ρ w => by simp [execOp, ha, hb]) hK
  obtain ⟨i, z, hi, _, _, hz, hzl, _⟩ := hS.ex
  refine ⟨{ w with heap := w.heap.push (.cells zl.toArray T) }, ⟨rfl, rfl, rfl⟩, ?_⟩
  simp [execOp, ho, Instr.alloc, zeroValue, typeInfo, hi, hz, newVar, newRow, hzl]

theorem OpOk.box {x : Operand} {T : Nat} {v : Value} {l : List Value} (hx : ev e x = some v) [hc : Cells v l] (hK : ∀ b, K (.pointer (some ⟨b, 0, none⟩)) (cel b T l :: own) g) : OpOk c D (.box T x) ty e own g K := by
  have hl := hc.eq
  refine .of_alloc (v := fun b => .pointer (some ⟨b, 0, none⟩)) (by simp) (fun F _ w hf hh o ho _ => ?_) (fun a b ha hb _ _ ρ w => by simp [execOp, ha, hb]) hK
  refine ⟨{ w with heap := w.heap.push (.cells l.toArray T) }, ⟨rfl, rfl, rfl⟩, ?_⟩
  simp [execOp, ho, Instr.box, hf.ev (by simp [Op.operands, Call.operands]) hx, newVar, newRow, hl]

theorem setRow_heap_eq {w : World} {b T : Nat} {old cs : Array Value} {fr : Nat × Nat} (h : w.heap[b]? = some (.cells old T fr)) : (w.setRow b cs).heap = w.heap.setIfInBounds b (.cells cs T fr) := by
  have hlt := (Array.getElem?_eq_some_iff.1 h).1
  apply Array.ext_getElem?
  intro i
  by_cases hi : i = b
  · subst hi; rw [setRow_heap w i old cs T fr h]; simp [hlt]
  · rw [setRow_other w b i cs hi, Array.getElem?_setIfInBounds]; simp [Ne.symm hi]

theorem OpOk.store {x y : Operand} {T t b off sz by_ : Nat} {zl l vs l' : List Value} {v : Value} {f : List Value → List HProp} [hS : TY c.P t sz by_ zl] (hx : ev e x = some (.pointer (some ⟨b, off, none⟩))) (hy : ev e y = some v)
    [hcells : Cells v vs] [hlen : Len vs sz] (h1 : (vs.all Value.oneCell') = true) [hup : Up b own T l f] [hw : SetW l off vs l'] (hK : K undef (f l') g) : OpOk c D (.store t x y) ty e own g K := by
  have hv := hcells.eq
  have hn := hlen.eq
  have hu := hup.upd l'
  generalize f l' = own' at hK hu
  refine .of_run (by simp) fun hle F tmps w hf hh => ?_
  obtain ⟨r, hp1, hp2⟩ := hu.perm
  have hh1 := hh.perm hp1
  have hb := hh1.blk
  have hst := run_storeCells_at c.P b off T vs 0 l.toArray w hb (by simpa using hw.eq.2) (fun v hv => (List.all_eq_true.1 h1) v hv)
  have hset := hh1.set (o' := .cells l'.toArray T (0, 0)) (w' := w.setRow b l'.toArray) (setRow_heap_eq hb)
  refine ⟨undef, own', g, w.setRow b l'.toArray, Le.refl g, hK, hset.perm hp2, fun o ho _ => .inr ⟨rfl, ?_⟩⟩
  simp only [Nat.add_zero, List.toList_toArray] at hst
  rw [← hw.eq.1] at hst
  subst hn
  simp [execOp, ho, hf.ev (by simp [Op.operands, Call.operands]) hx, hf.ev (by simp [Op.operands, Call.operands]) hy, Instr.storeAt, Instr.sureAddr, storeVar, hv, hS.run, hst]

/-! ### Aggregates -/
def evP (e : List (Nat × Value)) : List (Nat × Operand) → Option (List (Nat × Value))
  | [] => some []
  | (i, x) :: xs => match Zed.ev e x, evP e xs with
    | some v, some vs => some ((i, v) :: vs)
    | _, _ => none
theorem evP_map {op : Op} {tmps : Array Value} (h : FitO op e tmps) : ∀ {xs : List (Nat × Operand)} {vs : List (Nat × Value)}, (∀ x ∈ xs, x.2 ∈ op.operands) → evP e xs = some vs →
    xs.map (fun x => (x.1, Act.eval ⟨tmps, D⟩ x.2)) = vs
  | [], vs, _, hx => by simp [evP] at hx; simp [hx]
  | (i, x) :: xs, vs, hm, hx => by
    simp only [evP] at hx
    cases h1 : Zed.ev e x with
    | none => simp [h1] at hx
    | some v =>
      cases h2 : evP e xs with
      | none => simp [h1, h2] at hx
      | some us =>
        simp [h1, h2] at hx
        subst hx
        simp [h.ev (hm (i, x) (by simp)) h1, evP_map h (fun y hy => hm y (by simp [hy])) h2]
theorem evP_mapA {op : Op} {tmps : Array Value} {xs : List (Nat × Operand)} {vs : List (Nat × Value)} (h : FitO op e tmps) (hm : ∀ x ∈ xs, x.2 ∈ op.operands) (hx : evP e xs = some vs) :
    xs.toArray.map (fun x => (x.1, Act.eval ⟨tmps, D⟩ x.2)) = vs.toArray := by
  rw [← evP_map (D := D) h hm hx]; simp
end Go.Zed
