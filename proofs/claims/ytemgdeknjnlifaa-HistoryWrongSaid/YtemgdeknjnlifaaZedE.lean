/- Steps of a region; aggregates; calls. -/
import Derived.Test.YtemgdeknjnlifaaZedC
namespace Go.Zed
open Go

variable {c : Cx} {k k' : List Item} {D D' : List Deferred} {e e' : List (Nat × Value)} {own own' : List HProp} {g g' : Img} {ty : TypeId} {K : Value → List HProp → Img → Prop}

section
variable {ops : Array Oper} {l : List Oper} {d : Nat} {op : Op} {pos : String} {aft : Array Edge} {rest : List Oper} {v : Value} {j s : Nat} {b : Bool}
theorem RO.q0 (hd : Nat.blt d c.N = true) (hq : QOk c.P op ty e [] g v) (hqu : quietly op = true) (h : RO c ops rest k D ((d, v) :: e) own g) : RO c ops (⟨some d, op, ty, pos, aft, none⟩ :: rest) k D e own g :=
  .go (by simpa using hd) (.of_quiet (at_ := []) (r := own) hqu (.refl own) hq h)
theorem RO.q1 {p : HProp} {r : List HProp} (hd : Nat.blt d c.N = true) (ht : Take p own r) (hq : QOk c.P op ty e [p] g v) (hqu : quietly op = true) (h : RO c ops rest k D ((d, v) :: e) own g) :
    RO c ops (⟨some d, op, ty, pos, aft, none⟩ :: rest) k D e own g :=
  .go (by simpa using hd) (.of_quiet hqu ht.perm hq h)
theorem RO.gq0 (hj : (l[j]?).bind (·.dst) = some s) (hs : find e s = some (.bool b)) (hd : Nat.blt d c.N = true) (hq : QOk c.P op ty e [] g v) (hqu : quietly op = true) (h : RO c l.toArray rest k D ((d, v) :: e) own g) :
    RO c l.toArray (⟨some d, op, ty, pos, aft, some (j, b)⟩ :: rest) k D e own g :=
  .guardOn (by simpa using hd) hj hs (.of_quiet (at_ := []) (r := own) hqu (.refl own) hq h)
theorem RO.gq1 {p : HProp} {r : List HProp} (hj : (l[j]?).bind (·.dst) = some s) (hs : find e s = some (.bool b)) (hd : Nat.blt d c.N = true) (ht : Take p own r) (hq : QOk c.P op ty e [p] g v) (hqu : quietly op = true) (h : RO c l.toArray rest k D ((d, v) :: e) own g) :
    RO c l.toArray (⟨some d, op, ty, pos, aft, some (j, b)⟩ :: rest) k D e own g :=
  .guardOn (by simpa using hd) hj hs (.of_quiet hqu ht.perm hq h)
theorem RO.ef (hd : Nat.blt d c.N = true) (h : OpOk c D op ty e own g (fun v own' g' => RO c ops rest k D ((d, v) :: e) own' g')) : RO c ops (⟨some d, op, ty, pos, aft, none⟩ :: rest) k D e own g :=
  .go (by simpa using hd) h
theorem RO.gef (hj : (l[j]?).bind (·.dst) = some s) (hs : find e s = some (.bool b)) (hd : Nat.blt d c.N = true) (h : OpOk c D op ty e own g (fun v own' g' => RO c l.toArray rest k D ((d, v) :: e) own' g')) :
    RO c l.toArray (⟨some d, op, ty, pos, aft, some (j, b)⟩ :: rest) k D e own g :=
  .guardOn (by simpa using hd) hj hs h
theorem RO.ef0 (h : OpOk c D op ty e own g (fun _ own' g' => RO c ops rest k D e own' g')) : RO c ops (⟨none, op, ty, pos, aft, none⟩ :: rest) k D e own g :=
  .go rfl h
theorem RO.offF (hj : (l[j]?).bind (·.dst) = some s) (hs : find e s = some (.bool false)) (hd : Nat.blt d c.N = true) (h : RO c l.toArray rest k D ((d, undef) :: e) own g) :
    RO c l.toArray (⟨some d, op, ty, pos, aft, some (j, true)⟩ :: rest) k D e own g := .guardOff (by simpa using hd) hj hs h
theorem RO.offT (hj : (l[j]?).bind (·.dst) = some s) (hs : find e s = some (.bool true)) (hd : Nat.blt d c.N = true) (h : RO c l.toArray rest k D ((d, undef) :: e) own g) :
    RO c l.toArray (⟨some d, op, ty, pos, aft, some (j, false)⟩ :: rest) k D e own g := .guardOff (by simpa using hd) hj hs h
theorem RO.offU (hj : (l[j]?).bind (·.dst) = some s) (hs : find e s = some undef) (hd : Nat.blt d c.N = true) (h : RO c l.toArray rest k D ((d, undef) :: e) own g) :
    RO c l.toArray (⟨some d, op, ty, pos, aft, some (j, b)⟩ :: rest) k D e own g := .guardNo (by simpa using hd) hj hs h
end

section
variable {ops : Array Oper} {l : List Oper} {d t b off T : Nat} {ty : TypeId} {pos : String} {aft : Array Edge} {rest : List Oper} {x : Operand} {cs : List Value} {r : List HProp} {v : Value} {j s : Nat} {gb : Bool}
theorem RO.ld [hT : TA c.P t false] (hd : Nat.blt d c.N = true) (hx : ev e x = some (.pointer (some ⟨b, off, none⟩))) [ht : Tk b own T cs r] [hw : Win cs off 1 [v]] (h : RO c ops rest k D ((d, v) :: e) own g) :
    RO c ops (⟨some d, .load t x, ty, pos, aft, none⟩ :: rest) k D e own g := .q1 hd ht.take (.loadOwn hx hw) rfl h
theorem RO.ldA {sz by_ : Nat} {zl vs : List Value} [hT : TA c.P t true] [hS : TY c.P t sz by_ zl] (hd : Nat.blt d c.N = true) (hx : ev e x = some (.pointer (some ⟨b, off, none⟩))) [ht : Tk b own T cs r] [hw : Win cs off sz vs] (h : RO c ops rest k D ((d, .agg vs.toArray) :: e) own g) :
    RO c ops (⟨some d, .load t x, ty, pos, aft, none⟩ :: rest) k D e own g := .q1 hd ht.take (.loadOwnA hx hw) rfl h
theorem RO.gld [hT : TA c.P t false] (hj : (l[j]?).bind (·.dst) = some s) (hs : find e s = some (.bool gb)) (hd : Nat.blt d c.N = true) (hx : ev e x = some (.pointer (some ⟨b, off, none⟩))) [ht : Tk b own T cs r] [hw : Win cs off 1 [v]] (h : RO c l.toArray rest k D ((d, v) :: e) own g) :
    RO c l.toArray (⟨some d, .load t x, ty, pos, aft, some (j, gb)⟩ :: rest) k D e own g := .gq1 hj hs hd ht.take (.loadOwn hx hw) rfl h
theorem RO.gldA {sz by_ : Nat} {zl vs : List Value} [hT : TA c.P t true] [hS : TY c.P t sz by_ zl] (hj : (l[j]?).bind (·.dst) = some s) (hs : find e s = some (.bool gb)) (hd : Nat.blt d c.N = true) (hx : ev e x = some (.pointer (some ⟨b, off, none⟩))) [ht : Tk b own T cs r] [hw : Win cs off sz vs] (h : RO c l.toArray rest k D ((d, .agg vs.toArray) :: e) own g) :
    RO c l.toArray (⟨some d, .load t x, ty, pos, aft, some (j, gb)⟩ :: rest) k D e own g := .gq1 hj hs hd ht.take (.loadOwnA hx hw) rfl h
end

/-! ### Aggregates -/
class TP (P : Program) (t : Nat) (places : outParam (List (Nat × Nat))) : Prop where
  ex : ∃ i z fields, P.info? t = some i ∧ i.zero = some z ∧ P.underlying t = some (.struct fields) ∧ fields.toList.mapM (fun f => (P.info? f.type).map fun i => (f.offset, i.size)) = some places

class inductive Nth2 : List (Nat × Nat) → Nat → outParam Nat → outParam Nat → Prop
  | zero {o n : Nat} {l : List (Nat × Nat)} : Nth2 ((o, n) :: l) 0 o n
  | succ {x : Nat × Nat} {l : List (Nat × Nat)} {i o n : Nat} (h : Nth2 l i o n) : Nth2 (x :: l) (i + 1) o n
instance {x : Nat × Nat} {l : List (Nat × Nat)} {i o n : Nat} [h : Nth2 l i o n] : Nth2 (x :: l) (i + 1) o n := .succ h
instance {o n : Nat} {l : List (Nat × Nat)} : Nth2 ((o, n) :: l) 0 o n := .zero
theorem Nth2.eq {l : List (Nat × Nat)} {i o n : Nat} (h : Nth2 l i o n) : l[i]? = some (o, n) := by induction h with | zero => rfl | succ _ ih => simpa using ih

class inductive FillP (places : List (Nat × Nat)) : List Value → List (Nat × Value) → outParam (List Value) → Prop
  | nil {l : List Value} : FillP places l [] l
  | cons {i o n : Nat} {v : Value} {vs l l' l'' : List Value} {ps : List (Nat × Value)} (hf : Nth2 places i o n) (hv : Cells v vs) (hn : Len vs n) (hw : SetW l o vs l') (t : FillP places l' ps l'') :
      FillP places l ((i, v) :: ps) l''
instance {places : List (Nat × Nat)} {l : List Value} : FillP places l [] l := .nil
instance {places : List (Nat × Nat)} {i o n : Nat} {v : Value} {vs l l' l'' : List Value} {ps : List (Nat × Value)} [hf : Nth2 places i o n] [hv : Cells v vs] [hn : Len vs n] [hw : SetW l o vs l'] [t : FillP places l' ps l''] : FillP places l ((i, v) :: ps) l'' := .cons hf hv hn hw t

theorem foldl_set : ∀ (vs : List Value) (o k : Nat) (l : List Value), o + k + vs.length ≤ l.length →
    (vs.zipIdx k).foldl (fun (cs : Array Value) (x : Value × Nat) => cs.setIfInBounds (o + x.2) x.1) l.toArray = (l.take (o + k) ++ vs ++ l.drop (o + k + vs.length)).toArray
  | [], o, k, l, _ => by simp
  | v :: vs, o, k, l, h => by
    simp only [List.zipIdx_cons, List.foldl_cons, List.setIfInBounds_toArray]
    have ih := foldl_set vs o (k + 1) (l.set (o + k) v) (by simp at h ⊢; omega)
    rw [ih]
    congr 1
    have := list_seg_step l (o + k) v vs (by simp at h ⊢; omega)
    simpa [Nat.add_assoc] using this

theorem fill_eq {places : List (Nat × Nat)} : ∀ {ps : List (Nat × Value)} {l l' : List Value}, FillP places l ps l' → Instr.fill (fun i => places[i]?) l.toArray ps = some l'.toArray
  | [], l, l', h => by cases h; rfl
  | (i, v) :: ps, l, l', h => by
    cases h with
    | @cons _ o n _ vs _ l1 _ _ hf hv hn hw ht =>
      have hf := hf.eq
      have hv := hv.eq
      have hn := hn.eq
      simp only [Instr.fill, hf, hv, List.size_toArray, hn]
      have hle := hw.eq.2
      rw [if_neg (by simp; omega)]
      have hfold := foldl_set vs o 0 l (by simpa using hle)
      simp only [Nat.add_zero] at hfold
      rw [← hw.eq.1] at hfold
      have e1 : vs.toArray.zipIdx = (vs.zipIdx 0).toArray := by simp
      rw [e1]
      simp only [List.foldl_toArray]
      rw [hfold]
      exact fill_eq ht

theorem QOk.build {P : Program} {t sz by_ : Nat} {zl : List Value} {places : List (Nat × Nat)} {xs : List (Nat × Operand)} {ps : List (Nat × Value)} {l : List Value} [hT : TP P t places] [hY : TY P t sz by_ zl]
    (hx : evP e xs = some ps) [hf : FillP places zl ps l] : QOk P (.build t xs.toArray) ty e [] g (.agg l.toArray) := by
  intro tmps D F w hfit _ o ho _
  obtain ⟨i, z, fields, hi, hz, hu, hp⟩ := hT.ex
  obtain ⟨i', z', hi', _, _, hz', hzl, _⟩ := hY.ex
  rw [hi] at hi'; cases hi'
  rw [hz] at hz'; cases hz'
  have hxs := evP_mapA (D := D) hfit (xs := xs) (vs := ps) (by simp [Op.operands]; exact fun a b hab => ⟨a, hab⟩) hx
  have hpl := run_places (P := P) w fields.toList places hp
  have hfe := fill_eq hf
  simp only [execOp, ho]
  rw [hxs]
  have hb : (Instr.build t ps.toArray).run P w = .ok (.agg l.toArray) w := by
    simp [Instr.build, run_underlying hu, typeInfo, zeroValue, hi, hz, Array.mapM_eq_mapM_toList, hpl, hzl, hfe]
  simp [hb]

class inductive App : List Value → List Value → outParam (List Value) → Prop
  | nil {l : List Value} : App [] l l
  | cons {x : Value} {a b c : List Value} (h : App a b c) : App (x :: a) b (x :: c)
instance {b : List Value} : App [] b b := .nil
instance {x : Value} {a b c : List Value} [h : App a b c] : App (x :: a) b (x :: c) := .cons h
theorem App.eq {a b c : List Value} (h : App a b c) : c = a ++ b := by induction h with | nil => rfl | cons _ ih => simp [ih]

/-- The cells of a list of values, each of one size. -/
class inductive Flat (n : Nat) : List Value → outParam (List Value) → Prop
  | nil : Flat n [] []
  | cons {v : Value} {vs : List Value} {cs l l' : List Value} (hv : Cells v cs) (hn : Len cs n) (t : Flat n vs l) (ha : App cs l l') : Flat n (v :: vs) l'
instance {n : Nat} : Flat n [] [] := .nil
instance {n : Nat} {v : Value} {vs cs l l' : List Value} [hv : Cells v cs] [hn : Len cs n] [t : Flat n vs l] [ha : App cs l l'] : Flat n (v :: vs) l' := .cons hv hn t ha

class inductive Seq : Nat → List (Nat × Value) → outParam (List Value) → Prop
  | nil {i : Nat} : Seq i [] []
  | cons {i : Nat} {v : Value} {ps : List (Nat × Value)} {vs : List Value} (h : Seq (i + 1) ps vs) : Seq i ((i, v) :: ps) (v :: vs)
instance {i : Nat} : Seq i [] [] := .nil
instance {i : Nat} {v : Value} {ps : List (Nat × Value)} {vs : List Value} [h : Seq (i + 1) ps vs] : Seq i ((i, v) :: ps) (v :: vs) := .cons h

theorem Flat.length {n : Nat} {vs l : List Value} (h : Flat n vs l) : l.length = vs.length * n := by
  induction h with
  | nil => simp
  | cons _ hn _ ha ih => rw [ha.eq, List.length_append, hn.eq, ih, List.length_cons, Nat.succ_mul, Nat.add_comm]

theorem fillSeq {n : Nat} : ∀ {vs l : List Value} {ps : List (Nat × Value)} (i : Nat) (pre tail : List Value), Flat n vs l → Seq i ps vs → pre.length = i * n → tail.length = vs.length * n →
    Instr.fill (fun i => some (i * n, n)) (pre ++ tail).toArray ps = some (pre ++ l).toArray
  | [], l, ps, i, pre, tail, hf, hs, _, ht => by
    cases hf; cases hs
    obtain rfl : tail = [] := List.eq_nil_of_length_eq_zero (by simpa using ht)
    rfl
  | v :: vs, l, ps, i, pre, tail, hf, hs, hp, ht => by
    cases hf with
    | @cons _ _ cs l1 _ hv hn hfl ha =>
      cases hs with
      | @cons _ _ _ _ hs =>
        have hv := hv.eq
        have hn := hn.eq
        have hc := ha.eq
        subst hc
        simp only [Instr.fill, hv, List.size_toArray, hn]
        have htl : n ≤ tail.length := by rw [ht, List.length_cons, Nat.succ_mul]; omega
        rw [if_neg (by simp [hp]; omega)]
        have hfold := foldl_set cs (i * n) 0 (pre ++ tail) (by simp [hp, hn]; omega)
        simp only [Nat.add_zero] at hfold
        have e1 : cs.toArray.zipIdx = (cs.zipIdx 0).toArray := by simp
        rw [e1]
        simp only [List.foldl_toArray]
        rw [hfold]
        have e2 : (pre ++ tail).take (i * n) ++ cs ++ (pre ++ tail).drop (i * n + cs.length) = (pre ++ cs) ++ tail.drop n := by
          rw [← hp, List.take_left, hn, List.drop_append]
          simp
        rw [e2]
        have := fillSeq (n := n) (i + 1) (pre ++ cs) (tail.drop n) hfl hs (by simp [hp, hn, Nat.succ_mul]) (by simp [ht, Nat.succ_mul])
        rw [this, List.append_assoc]

theorem OpOk.buildSlice {t el sz by_ n : Nat} {zl : List Value} {xs : List (Nat × Operand)} {ps : List (Nat × Value)} {vs l : List Value} [hT : TD c.P t (.slice el)] [hY : TY c.P el sz by_ zl]
    (hx : evP e xs = some ps) [hs : Seq 0 ps vs] [hn' : Len vs n] [hf : Flat sz vs l] (hbig : Nat.ble (n * sz) 16777216 = true)
    (hK : ∀ b, K (.slice (some ⟨b, 0, none⟩) n n) (cel b el l :: own) g) : OpOk c D (.buildSlice t n xs.toArray) ty e own g K := by
  have hn := hn'.eq
  refine .of_alloc (v := fun b => .slice (some ⟨b, 0, none⟩) n n) (by simp) (fun F tmps w hfit hh o ho _ => ?_) (fun a b ha hb _ _ ρ w => by simp [execOp, ha, hb]) hK
  obtain ⟨i, z, hi, hsz, _, hz, hzl, _⟩ := hY.ex
  refine ⟨{ w with heap := w.heap.push (.cells l.toArray el) }, ⟨rfl, rfl, rfl⟩, ?_⟩
  have hxs := evP_mapA (D := D) hfit (xs := xs) (vs := ps) (by simp [Op.operands]; exact fun a b hab => ⟨a, hab⟩) hx
  simp only [execOp, ho]
  rw [hxs]
  have hbig' : ¬ (n * sz > 16777216) := by have := Nat.le_of_ble_eq_true hbig; omega
  have key : ∀ z0 : Array Value, Instr.fill (fun i => some (i * sz, sz)) ((Array.range (n * sz)).map (z0[· % z0.size]!)) ps = some l.toArray := by
    intro z0
    have hfill := fillSeq (n := sz) 0 [] ((Array.range (n * sz)).map (z0[· % z0.size]!)).toList hf hs (by simp) (by simp [hn])
    simpa only [List.nil_append, Array.toArray_toList] using hfill
  by_cases h0 : n * sz = 0
  · have := key #[]
    rw [h0] at this
    simp only [Instr.buildSlice, Sem.run_bind, run_underlying hT.eq, Result.andThen_ok, sizeOf, typeInfo, run_program, hi, Sem.run_pure, hsz, Sem.run_ite, if_neg hbig', h0, if_true, this]
    simp [newRow, this]
  · have := key zl.toArray
    have h1 : n ≠ 0 ∧ sz ≠ 0 := ⟨fun h => h0 (by simp [h]), fun h => h0 (by simp [h])⟩
    simp [Instr.buildSlice, run_underlying hT.eq, sizeOf, typeInfo, zeroValue, hi, hsz, hz, hbig', h1.1, hzl, newRow] at this ⊢
    simp [this]
    exact fun h => absurd h h0

/-! ### Calls -/
theorem OpOk.callV {fx : Operand} {f : Nat} {fl cl vs : List Value} {xs : List Operand} {ats : Array TypeId} {A B : List HProp} {Q : Value → List HProp → Img → Prop} [hF : CF c.P f]
    (hf : ev e fx = some (.func (.func f) fl.toArray cl.toArray)) (hx : evs e xs = some vs)
    (hc : ∀ F, Fc c.P f (fl ++ (vs ++ cl)).toArray A F g Q) (hp : Pick own A B)
    (hK : ∀ v own' g', Le g g' → Q v own' g' → K v (own' ++ B) g') :
    OpOk c D (.call { callee := .value fx, args := xs.toArray, argTypes := ats }) ty e own g K := by
  refine .of_enter (f := f) (args := (fl ++ (vs ++ cl)).toArray) (by simp) (fun F tmps w hfit hh o ho _ => ?_) hp.perm hc hK
  have h1 := hfit.ev (D := D) (by simp [Op.operands, Call.operands]) hf
  have h2 := evs_mapA (D := D) hfit (xs := xs) (vs := vs) (by simp [Op.operands, Call.operands]; exact fun x hx => .inr hx) hx
  have : (fl.toArray ++ (vs.toArray ++ cl.toArray)) = (fl ++ (vs ++ cl)).toArray := by simp
  simp [execOp, ho, resolve, h1, h2, Deferred.ofValue, invoke, hF.run]


/-! ### Comparisons, decided or not; wraps that do nothing -/
def cmpP : BinOp → Int → Int → Option Prop
  | .eql, a, b => some (a = b)
  | .neq, a, b => some (a ≠ b)
  | .lss, a, b => some (a < b)
  | .leq, a, b => some (a ≤ b)
  | .gtr, a, b => some (b < a)
  | .geq, a, b => some (b ≤ a)
  | _, _, _ => none
theorem cmpP_true {op : BinOp} {a b : Int} {p : Prop} (hp : cmpP op a b = some p) (h : p) : cmpB op a b = some true := by
  cases op <;> simp only [cmpP, Option.some.injEq, reduceCtorEq] at hp <;> subst hp <;> simp_all [cmpB]
theorem cmpP_false {op : BinOp} {a b : Int} {p : Prop} (hp : cmpP op a b = some p) (h : ¬ p) : cmpB op a b = some false := by
  cases op <;> simp only [cmpP, Option.some.injEq, reduceCtorEq] at hp <;> subst hp <;> simp_all [cmpB]
section
variable {P : Program} {x y : Operand} {op : BinOp} {t yt : TypeId} {kk : IntKind} {a b : Int} {p : Prop}
theorem QOk.cmpT (hx : ev e x = some (.int kk a)) (hy : ev e y = some (.int kk b)) (hp : cmpP op a b = some p) (h : p) : QOk P (.binOp op t x y yt) ty e [] g (.bool true) := .cmp hx hy (cmpP_true hp h)
theorem QOk.cmpF (hx : ev e x = some (.int kk a)) (hy : ev e y = some (.int kk b)) (hp : cmpP op a b = some p) (h : ¬ p) : QOk P (.binOp op t x y yt) ty e [] g (.bool false) := .cmp hx hy (cmpP_false hp h)
theorem RO.cmpS {ops : Array Oper} {d : Nat} {pos : String} {aft : Array Edge} {rest : List Oper} (hd : Nat.blt d c.N = true) (hx : ev e x = some (.int kk a)) (hy : ev e y = some (.int kk b)) (hp : cmpP op a b = some p)
    (ht : p → RO c ops rest k D ((d, .bool true) :: e) own g) (hf : ¬ p → RO c ops rest k D ((d, .bool false) :: e) own g) : RO c ops (⟨some d, .binOp op t x y yt, ty, pos, aft, none⟩ :: rest) k D e own g := by
  by_cases h : p
  · exact .q0 hd (.cmpT hx hy hp h) rfl (ht h)
  · exact .q0 hd (.cmpF hx hy hp h) rfl (hf h)
theorem RO.gcmpS {l : List Oper} {d j s : Nat} {gb : Bool} {pos : String} {aft : Array Edge} {rest : List Oper} (hj : (l[j]?).bind (·.dst) = some s) (hs : find e s = some (.bool gb)) (hd : Nat.blt d c.N = true) (hx : ev e x = some (.int kk a)) (hy : ev e y = some (.int kk b)) (hp : cmpP op a b = some p)
    (ht : p → RO c l.toArray rest k D ((d, .bool true) :: e) own g) (hf : ¬ p → RO c l.toArray rest k D ((d, .bool false) :: e) own g) : RO c l.toArray (⟨some d, .binOp op t x y yt, ty, pos, aft, some (j, gb)⟩ :: rest) k D e own g := by
  by_cases h : p
  · exact .gq0 hj hs hd (.cmpT hx hy hp h) rfl (ht h)
  · exact .gq0 hj hs hd (.cmpF hx hy hp h) rfl (hf h)
end
theorem w64 {n : Int} (h : -9223372036854775808 ≤ n ∧ n ≤ 9223372036854775807) : IntKind.i64.wrap n = n := by rw [IntKind.wrap_i64]; omega
theorem wu {kk : IntKind} {n : Int} (hs : kk.signed = false) (h : 0 ≤ n ∧ n < 2 ^ kk.bits) : kk.wrap n = n := by
  unfold IntKind.wrap
  simp only [hs]
  have := Int.emod_eq_of_lt h.1 h.2
  simpa using this
theorem wu8 {n : Int} (h : 0 ≤ n ∧ n ≤ 255) : IntKind.u8.wrap n = n := wu rfl ⟨h.1, by simp [IntKind.bits]; omega⟩
theorem wu16 {n : Int} (h : 0 ≤ n ∧ n ≤ 65535) : IntKind.u16.wrap n = n := wu rfl ⟨h.1, by simp [IntKind.bits]; omega⟩
theorem wu32 {n : Int} (h : 0 ≤ n ∧ n ≤ 4294967295) : IntKind.u32.wrap n = n := wu rfl ⟨h.1, by simp [IntKind.bits]; omega⟩
theorem wu64 {n : Int} (h : 0 ≤ n ∧ n ≤ 18446744073709551615) : IntKind.u64.wrap n = n := wu rfl ⟨h.1, by simp [IntKind.bits]; omega⟩
theorem wq64 {a b : Int} (h : 0 ≤ a ∧ a ≤ 9223372036854775807 ∧ 0 < b) : IntKind.i64.wrap (a.tdiv b) = a / b := by
  rw [Int.tdiv_eq_ediv_of_nonneg h.1, w64]
  have h1 := Int.ediv_nonneg h.1 (Int.le_of_lt h.2.2)
  have h2 := Int.ediv_le_self b h.1
  omega
theorem rm0 {a b : Int} (h : 0 ≤ a) : a.tmod b = a % b := Int.tmod_eq_emod_of_nonneg h
class P2 (n : Nat) (m : outParam Int) : Prop where eq : (2 : Int) ^ n = m
instance : P2 0 1 := ⟨rfl⟩
instance : P2 1 2 := ⟨rfl⟩
instance : P2 2 4 := ⟨rfl⟩
instance : P2 3 8 := ⟨rfl⟩
instance : P2 4 16 := ⟨rfl⟩
instance : P2 5 32 := ⟨rfl⟩
instance : P2 6 64 := ⟨rfl⟩
instance : P2 7 128 := ⟨rfl⟩
instance : P2 8 256 := ⟨rfl⟩
instance : P2 9 512 := ⟨rfl⟩
instance : P2 10 1024 := ⟨rfl⟩
instance : P2 11 2048 := ⟨rfl⟩
instance : P2 12 4096 := ⟨rfl⟩
instance : P2 13 8192 := ⟨rfl⟩
instance : P2 14 16384 := ⟨rfl⟩
instance : P2 15 32768 := ⟨rfl⟩
instance : P2 16 65536 := ⟨rfl⟩
instance : P2 17 131072 := ⟨rfl⟩
instance : P2 18 262144 := ⟨rfl⟩
instance : P2 19 524288 := ⟨rfl⟩
instance : P2 20 1048576 := ⟨rfl⟩
instance : P2 21 2097152 := ⟨rfl⟩
instance : P2 22 4194304 := ⟨rfl⟩
instance : P2 23 8388608 := ⟨rfl⟩
instance : P2 24 16777216 := ⟨rfl⟩
instance : P2 25 33554432 := ⟨rfl⟩
instance : P2 26 67108864 := ⟨rfl⟩
instance : P2 27 134217728 := ⟨rfl⟩
instance : P2 28 268435456 := ⟨rfl⟩
instance : P2 29 536870912 := ⟨rfl⟩
instance : P2 30 1073741824 := ⟨rfl⟩
instance : P2 31 2147483648 := ⟨rfl⟩
instance : P2 32 4294967296 := ⟨rfl⟩
instance : P2 33 8589934592 := ⟨rfl⟩
instance : P2 34 17179869184 := ⟨rfl⟩
instance : P2 35 34359738368 := ⟨rfl⟩
instance : P2 36 68719476736 := ⟨rfl⟩
instance : P2 37 137438953472 := ⟨rfl⟩
instance : P2 38 274877906944 := ⟨rfl⟩
instance : P2 39 549755813888 := ⟨rfl⟩
instance : P2 40 1099511627776 := ⟨rfl⟩
instance : P2 41 2199023255552 := ⟨rfl⟩
instance : P2 42 4398046511104 := ⟨rfl⟩
instance : P2 43 8796093022208 := ⟨rfl⟩
instance : P2 44 17592186044416 := ⟨rfl⟩
instance : P2 45 35184372088832 := ⟨rfl⟩
instance : P2 46 70368744177664 := ⟨rfl⟩
instance : P2 47 140737488355328 := ⟨rfl⟩
instance : P2 48 281474976710656 := ⟨rfl⟩
instance : P2 49 562949953421312 := ⟨rfl⟩
instance : P2 50 1125899906842624 := ⟨rfl⟩
instance : P2 51 2251799813685248 := ⟨rfl⟩
instance : P2 52 4503599627370496 := ⟨rfl⟩
instance : P2 53 9007199254740992 := ⟨rfl⟩
instance : P2 54 18014398509481984 := ⟨rfl⟩
instance : P2 55 36028797018963968 := ⟨rfl⟩
instance : P2 56 72057594037927936 := ⟨rfl⟩
instance : P2 57 144115188075855872 := ⟨rfl⟩
instance : P2 58 288230376151711744 := ⟨rfl⟩
instance : P2 59 576460752303423488 := ⟨rfl⟩
instance : P2 60 1152921504606846976 := ⟨rfl⟩
instance : P2 61 2305843009213693952 := ⟨rfl⟩
instance : P2 62 4611686018427387904 := ⟨rfl⟩
instance : P2 63 9223372036854775808 := ⟨rfl⟩

section
variable {P : Program} {x y : Operand} {t yt : TypeId} {kk k2 : IntKind} {a m : Int} {n : Nat}
theorem QOk.shrC (hx : ev e x = some (.int kk a)) (hy : ev e y = some (.int k2 (Int.ofNat n))) [hp : P2 n m] (hb : Nat.ble n kk.bits = true) : QOk P (.binOp .shr t x y yt) ty e [] g (.int kk (a / m)) := by
  refine .shr hx hy (Int.natCast_nonneg n) ?_
  have hn : n ≤ kk.bits := Nat.le_of_ble_eq_true hb
  rw [show (Int.ofNat n).toNat = n from rfl, Nat.min_eq_left hn, hp.eq]
  have : 0 ≤ m := by rw [← hp.eq]; exact Int.le_of_lt (Int.pow_pos (by decide))
  rw [Int.fdiv_eq_ediv_of_nonneg _ this]
theorem QOk.shlC {r' : Int} (hx : ev e x = some (.int kk a)) (hy : ev e y = some (.int k2 (Int.ofNat n))) [hp : P2 n m] (hb : Nat.ble n kk.bits = true) (hw : kk.wrap (a * m) = r') : QOk P (.binOp .shl t x y yt) ty e [] g (.int kk r') := by
  refine .shl hx hy (Int.natCast_nonneg n) ?_
  have hn : n ≤ kk.bits := Nat.le_of_ble_eq_true hb
  rw [show (Int.ofNat n).toNat = n from rfl, Nat.min_eq_left hn, hp.eq, hw]
end

end Go.Zed
