/- The operations that only reckon, and those that make, read and write cells. -/
import Derived.Test.YtemgdeknjnlifaaZedA
namespace Go.Zed
open Go

class TD (P : Program) (t : Nat) (d : outParam TypeDesc) : Prop where eq : P.underlying t = some d
class TA (P : Program) (t : Nat) (b : outParam Bool) : Prop where run : ∀ w, (isAgg t).run P w = .ok b w
class TF (P : Program) (t : Nat) (fields : outParam (List (Nat × Nat))) : Prop where
  ex : ∃ fs, P.underlying t = some (.struct fs) ∧ fs.toList.map (fun f => (f.offset, f.type)) = fields
class TY (P : Program) (t : Nat) (size bytes : outParam Nat) (zl : outParam (List Value)) : Prop where
  ex : ∃ i z, P.info? t = some i ∧ i.size = size ∧ i.bytes = bytes ∧ i.zero = some z ∧ z.cells = zl.toArray ∧ zl.length = size
class CF (P : Program) (f : Nat) : Prop where run : ∀ args w, (callFunc f args).run P w = .ok (.enter f args) w

theorem TD.run {P : Program} {t : Nat} {d : TypeDesc} (h : TD P t d) (w : World) : (underlying t).run P w = .ok d w := run_underlying h.eq w
theorem TY.run {P : Program} {t size bytes : Nat} {zl : List Value} (h : TY P t size bytes zl) (w : World) : (sizeOf t).run P w = .ok size w := by
  obtain ⟨i, z, hi, hs, _⟩ := h.ex
  simp [sizeOf, typeInfo, hi, hs]
def aggB : TypeDesc → Bool
  | .struct _ | .array _ _ => true
  | _ => false
theorem TD.agg {P : Program} {t : Nat} {d : TypeDesc} (h : TD P t d) (w : World) : (isAgg t).run P w = .ok (aggB d) w := by
  unfold isAgg
  simp only [Sem.run_bind, h.run, Result.andThen_ok]
  cases d <;> rfl

variable {c : Cx} {k k' : List Item} {D D' : List Deferred} {e e' : List (Nat × Value)} {own own' : List HProp} {g g' : Img} {ty : TypeId} {K : Value → List HProp → Img → Prop}

def quietly : Op → Bool
  | .defer _ | .go _ | .store .. | .select .. => false
  | _ => true

/-- A quiet operation: it hands back v and leaves the world as it is. -/
def QOk (P : Program) (op : Op) (ty : TypeId) (e : List (Nat × Value)) (at_ : List HProp) (g : Img) (v : Value) : Prop :=
  ∀ tmps D F w, FitO op e tmps → Holds at_ F g w → ∀ o : Oper, o.op = op → o.type = ty → (execOp (Act.eval ⟨tmps, D⟩) o).run P w = .ok (.value v) w

theorem Holds.front {A B : List HProp} {F : Frag} {g : Img} {w : World} (h : Holds (A ++ B) F g w) : ∃ F', Holds A F' g w := by
  obtain ⟨fb, _, h⟩ := h.split
  exact ⟨_, h⟩

theorem OpOk.of_quiet {op : Op} {v : Value} {at_ r : List HProp} (hdef : quietly op = true) (hp : own.Perm (at_ ++ r)) (h : QOk c.P op ty e at_ g v) (hK : K v own g) : OpOk c D op ty e own g K := by
  refine .of_run (fun cl he => by subst he; cases hdef) fun _ F tmps w hf hh => ⟨v, own, g, w, Le.refl g, hK, hh, fun o ho ht => .inl ?_⟩
  obtain ⟨F', hA⟩ := (hh.perm hp).front
  exact h tmps D F' w hf hA o ho ht

section pureOps
variable {P : Program}
variable {x y z : Operand} {v u : Value}
theorem QOk.move (hx : ev e x = some v)  : QOk P (.move x) ty e [] g v :=
  (fun _ _ _ w hf _ o ho _ => by simp [execOp, ho, hf.ev (by simp [Op.operands, Call.operands]) hx])
theorem QOk.assign (hx : ev e x = some v)  : QOk P (.assign x) ty e [] g v :=
  (fun _ _ _ w hf _ o ho _ => by simp [execOp, ho, hf.ev (by simp [Op.operands, Call.operands]) hx])
theorem QOk.pickT (hc : ev e x = some (.bool true)) (hx : ev e y = some v)  : QOk P (.pick x y z) ty e [] g v :=
  (fun _ _ _ w hf _ o ho _ => by simp [execOp, ho, hf.ev (by simp [Op.operands, Call.operands]) hc, hf.ev (by simp [Op.operands, Call.operands]) hx, asBool])
theorem QOk.pickF (hc : ev e x = some (.bool false)) (hx : ev e z = some v)  : QOk P (.pick x y z) ty e [] g v :=
  (fun _ _ _ w hf _ o ho _ => by simp [execOp, ho, hf.ev (by simp [Op.operands, Call.operands]) hc, hf.ev (by simp [Op.operands, Call.operands]) hx, asBool])
theorem QOk.notT {t : TypeId} (hx : ev e x = some (.bool true))  : QOk P (.unOp .not t x) ty e [] g (.bool false) :=
  (fun _ _ _ w hf _ o ho _ => by simp [execOp, ho, hf.ev (by simp [Op.operands, Call.operands]) hx, Op.unary])
theorem QOk.notF {t : TypeId} (hx : ev e x = some (.bool false))  : QOk P (.unOp .not t x) ty e [] g (.bool true) :=
  (fun _ _ _ w hf _ o ho _ => by simp [execOp, ho, hf.ev (by simp [Op.operands, Call.operands]) hx, Op.unary])

/-- An arithmetic operation of the int kinds: what comes out, ahead of the wrap. -/
def arith : BinOp → Int → Int → Option Int
  | .add, a, b => some (a + b)
  | .sub, a, b => some (a - b)
  | .mul, a, b => some (a * b)
  | _, _, _ => none
def cmpB : BinOp → Int → Int → Option Bool
  | .eql, a, b => some (a == b)
  | .neq, a, b => some (a != b)
  | .lss, a, b => some (decide (a < b))
  | .leq, a, b => some (decide (a ≤ b))
  | .gtr, a, b => some (decide (a > b))
  | .geq, a, b => some (decide (a ≥ b))
  | _, _, _ => none
def bitB (k : IntKind) : BinOp → Int → Int → Option Int
  | .and, a, b => some (k.wrap (BitVec.ofInt k.bits a &&& BitVec.ofInt k.bits b).toNat)
  | .or, a, b => some (k.wrap (BitVec.ofInt k.bits a ||| BitVec.ofInt k.bits b).toNat)
  | .xor, a, b => some (k.wrap (BitVec.ofInt k.bits a ^^^ BitVec.ofInt k.bits b).toNat)
  | .andNot, a, b => some (k.wrap (BitVec.ofInt k.bits a &&& ~~~ BitVec.ofInt k.bits b).toNat)
  | _, _, _ => none

theorem eqGuard_int {P : Program} (w : World) (op : BinOp) (t : TypeId) (kk : IntKind) (a b : Int) (x y : Operand) : (eqGuard op t x y (.int kk a) (.int kk b)).run P w = .ok () w := by
  unfold eqGuard; cases op <;> simp
theorem eqGuard_str {P : Program} (w : World) (op : BinOp) (t : TypeId) (a b : ByteArray) (x y : Operand) : (eqGuard op t x y (.string a) (.string b)).run P w = .ok () w := by
  unfold eqGuard; cases op <;> simp
theorem eqGuard_bool {P : Program} (w : World) (op : BinOp) (t : TypeId) (a b : Bool) (x y : Operand) : (eqGuard op t x y (.bool a) (.bool b)).run P w = .ok () w := by
  unfold eqGuard; cases op <;> simp

theorem QOk.arith {op : BinOp} {t yt : TypeId} {kk : IntKind} {a b r r' : Int} (hx : ev e x = some (.int kk a)) (hy : ev e y = some (.int kk b)) (hr : Zed.arith op a b = some r)
    (hw : kk.wrap r = r')  : QOk P (.binOp op t x y yt) ty e [] g (.int kk r') := by
  intro _ _ _ w hf _ o ho _
  simp only [execOp, ho, hf.ev (by simp [Op.operands, Call.operands]) hx, hf.ev (by simp [Op.operands, Call.operands]) hy, Sem.run_bind, eqGuard_int, Result.andThen_ok]
  cases op <;> simp [Zed.arith] at hr <;> subst hr <;> simp [binOp, Op.intArith, hw]

theorem QOk.cmp {op : BinOp} {t yt : TypeId} {kk : IntKind} {a b : Int} {r : Bool} (hx : ev e x = some (.int kk a)) (hy : ev e y = some (.int kk b)) (hr : cmpB op a b = some r)
     : QOk P (.binOp op t x y yt) ty e [] g (.bool r) := by
  intro _ _ _ w hf _ o ho _
  simp only [execOp, ho, hf.ev (by simp [Op.operands, Call.operands]) hx, hf.ev (by simp [Op.operands, Call.operands]) hy, Sem.run_bind, eqGuard_int, Result.andThen_ok]
  cases op <;> simp [cmpB] at hr <;> subst hr <;> simp [binOp, Op.intCmp]

theorem QOk.bits {op : BinOp} {t yt : TypeId} {kk : IntKind} {a b r r' : Int} (hx : ev e x = some (.int kk a)) (hy : ev e y = some (.int kk b)) (hr : bitB kk op a b = some r)
    (hr' : r = r')  : QOk P (.binOp op t x y yt) ty e [] g (.int kk r') := by
  intro _ _ _ w hf _ o ho _
  subst hr'
  simp only [execOp, ho, hf.ev (by simp [Op.operands, Call.operands]) hx, hf.ev (by simp [Op.operands, Call.operands]) hy, Sem.run_bind, eqGuard_int, Result.andThen_ok]
  cases op <;> simp [bitB] at hr <;> subst hr <;> simp [binOp, Op.intBits]

theorem QOk.quo {t yt : TypeId} {kk : IntKind} {a b r' : Int} (hx : ev e x = some (.int kk a)) (hy : ev e y = some (.int kk b)) (hb : b ≠ 0)
    (hw : kk.wrap (a.tdiv b) = r')  : QOk P (.binOp .quo t x y yt) ty e [] g (.int kk r') := by
  intro _ _ _ w hf _ o ho _
  simp [execOp, ho, hf.ev (by simp [Op.operands, Call.operands]) hx, hf.ev (by simp [Op.operands, Call.operands]) hy, eqGuard_int, binOp, Op.intDiv, hb, hw]

theorem QOk.rem {t yt : TypeId} {kk : IntKind} {a b r' : Int} (hx : ev e x = some (.int kk a)) (hy : ev e y = some (.int kk b)) (hb : b ≠ 0)
    (hw : a.tmod b = r')  : QOk P (.binOp .rem t x y yt) ty e [] g (.int kk r') := by
  intro _ _ _ w hf _ o ho _
  simp [execOp, ho, hf.ev (by simp [Op.operands, Call.operands]) hx, hf.ev (by simp [Op.operands, Call.operands]) hy, eqGuard_int, binOp, Op.intDiv, hb, hw]

theorem eqGuard_sh {P : Program} (w : World) (op : BinOp) (t : TypeId) (kk k2 : IntKind) (a b : Int) (x y : Operand) : (eqGuard op t x y (.int kk a) (.int k2 b)).run P w = .ok () w := by
  unfold eqGuard; cases op <;> simp

theorem QOk.shr {t yt : TypeId} {kk k2 : IntKind} {a b r' : Int} (hx : ev e x = some (.int kk a)) (hy : ev e y = some (.int k2 b)) (hb : 0 ≤ b)
    (hw : a.fdiv (2 ^ (min b.toNat kk.bits)) = r')  : QOk P (.binOp .shr t x y yt) ty e [] g (.int kk r') := by
  intro _ _ _ w hf _ o ho _
  simp only [execOp, ho, hf.ev (by simp [Op.operands, Call.operands]) hx, hf.ev (by simp [Op.operands, Call.operands]) hy, Sem.run_bind, eqGuard_sh, Result.andThen_ok, binOp, Op.shift]
  rw [if_neg (by omega)]; subst hw; simp

theorem QOk.shl {t yt : TypeId} {kk k2 : IntKind} {a b r' : Int} (hx : ev e x = some (.int kk a)) (hy : ev e y = some (.int k2 b)) (hb : 0 ≤ b)
    (hw : kk.wrap (a * 2 ^ (min b.toNat kk.bits)) = r')  : QOk P (.binOp .shl t x y yt) ty e [] g (.int kk r') := by
  intro _ _ _ w hf _ o ho _
  simp only [execOp, ho, hf.ev (by simp [Op.operands, Call.operands]) hx, hf.ev (by simp [Op.operands, Call.operands]) hy, Sem.run_bind, eqGuard_sh, Result.andThen_ok, binOp, Op.shift]
  rw [if_neg (by omega)]; subst hw; simp

def strB : BinOp → ByteArray → ByteArray → Option Bool
  | .eql, a, b => some (a.toList == b.toList)
  | .neq, a, b => some (!(a.toList == b.toList))
  | .lss, a, b => some (Op.bytesLess a.toList b.toList)
  | .leq, a, b => some (Op.bytesLess a.toList b.toList || a.toList == b.toList)
  | .gtr, a, b => some (!(Op.bytesLess a.toList b.toList || a.toList == b.toList))
  | .geq, a, b => some (!(Op.bytesLess a.toList b.toList))
  | _, _, _ => none

theorem QOk.strCmp {op : BinOp} {t yt : TypeId} {a b : ByteArray} {r r' : Bool} (hx : ev e x = some (.string a)) (hy : ev e y = some (.string b)) (hr : strB op a b = some r)
    (hr' : r = r')  : QOk P (.binOp op t x y yt) ty e [] g (.bool r') := by
  intro _ _ _ w hf _ o ho _
  subst hr'
  simp only [execOp, ho, hf.ev (by simp [Op.operands, Call.operands]) hx, hf.ev (by simp [Op.operands, Call.operands]) hy, Sem.run_bind, eqGuard_str, Result.andThen_ok]
  cases op <;> simp only [strB, Option.some.injEq, reduceCtorEq] at hr <;> subst hr <;> simp [binOp, Op.stringOp]

theorem QOk.strAdd {t yt : TypeId} {a b : ByteArray} (hx : ev e x = some (.string a)) (hy : ev e y = some (.string b))
    (hn : a.size + b.size ≤ 9223372036854775807)  : QOk P (.binOp .add t x y yt) ty e [] g (.string (a ++ b)) := by
  intro _ _ _ w hf _ o ho _
  simp only [execOp, ho, hf.ev (by simp [Op.operands, Call.operands]) hx, hf.ev (by simp [Op.operands, Call.operands]) hy, Sem.run_bind, eqGuard_str, Result.andThen_ok, binOp, Op.stringOp]
  rw [if_neg (by simp [IntKind.max, IntKind.signed, IntKind.bits]; omega)]; simp

theorem run_equal_bool {t : TypeId} [hT : TD P t .bool] (a b : Bool) (w : World) : (Op.equal t (.bool a) (.bool b)).run P w = .ok (a == b) w := by
  unfold Op.equal Op.maxDepth
  rw [show (10000 : Nat) = 9999 + 1 from rfl, Op.equalIn]
  simp only [Sem.run_bind, hT.run, Result.andThen_ok, Sem.run_pure]
theorem QOk.boolEq {t : TypeId} [hT : TD P t .bool] {yt : TypeId} {a b : Bool} (hx : ev e x = some (.bool a)) (hy : ev e y = some (.bool b))
     : QOk P (.binOp .eql t x y yt) ty e [] g (.bool (a == b)) := by
  intro _ _ _ w hf _ o ho _
  simp only [execOp, ho, hf.ev (by simp [Op.operands, Call.operands]) hx, hf.ev (by simp [Op.operands, Call.operands]) hy, Sem.run_bind, eqGuard_bool, Result.andThen_ok, binOp, run_equal_bool, Sem.run_pure]
theorem QOk.boolNe {t : TypeId} [hT : TD P t .bool] {yt : TypeId} {a b : Bool} (hx : ev e x = some (.bool a)) (hy : ev e y = some (.bool b))
     : QOk P (.binOp .neq t x y yt) ty e [] g (.bool (a != b)) := by
  intro _ _ _ w hf _ o ho _
  simp only [execOp, ho, hf.ev (by simp [Op.operands, Call.operands]) hx, hf.ev (by simp [Op.operands, Call.operands]) hy, Sem.run_bind, eqGuard_bool, Result.andThen_ok, binOp, run_equal_bool, Sem.run_pure]
  rfl

theorem QOk.neg {t : TypeId} {kk : IntKind} {a r' : Int} (hx : ev e x = some (.int kk a)) (hw : kk.wrap (0 - a) = r')  : QOk P (.unOp .neg t x) ty e [] g (.int kk r') :=
  (fun _ _ _ w hf _ o ho _ => by simp [execOp, ho, hf.ev (by simp [Op.operands, Call.operands]) hx, Op.unary, Op.intArith] at hw ⊢; exact hw)

theorem QOk.convInt {s t : TypeId} {sd : TypeDesc} {k1 k2 : IntKind} {a r' : Int} [hS : TD P s sd] [hT : TD P t (.int k2)] (hx : ev e x = some (.int k1 a))
    (hw : k2.wrap a = r')  : QOk P (.convert s t x) ty e [] g (.int k2 r') :=
  (fun _ _ _ w hf _ o ho _ => by simp [execOp, ho, hf.ev (by simp [Op.operands, Call.operands]) hx, convert, hS.run, hT.run, Conv.intToInt, hw])

theorem QOk.convRune {s t : TypeId} {k0 k1 : IntKind} {a : Int} [hS : TD P s (.int k0)] [hT : TD P t .string] (hx : ev e x = some (.int k1 a))
     : QOk P (.convert s t x) ty e [] g (.string (Utf8.encode a)) :=
  (fun _ _ _ w hf _ o ho _ => by simp [execOp, ho, hf.ev (by simp [Op.operands, Call.operands]) hx, convert, hS.run, hT.run, Conv.intToString])

theorem QOk.makeFunc {fn : Go.Fn} {first captured : List Operand} {fs cs : List Value} (h1 : evs e first = some fs) (h2 : evs e captured = some cs)
     : QOk P (.makeFunc fn first.toArray captured.toArray) ty e [] g (.func fn fs.toArray cs.toArray) :=
  (fun _ _ _ w hf _ o ho _ => by rw [execOp, ho]; simp only [evs_mapA hf (by simp [Op.operands]; exact fun x hx => .inl hx) h1, evs_mapA hf (by simp [Op.operands]; exact fun x hx => .inr hx) h2, Instr.makeFunc, Sem.run_bind, Sem.run_pure, Result.andThen_ok])

theorem QOk.extract {vs : List Value} {i : Nat} (hx : ev e x = some (.tuple vs.toArray)) (hi : vs[i]? = some v)  : QOk P (.extract x i) ty e [] g v :=
  (fun _ _ _ w hf _ o ho _ => by simp [execOp, ho, hf.ev (by simp [Op.operands, Call.operands]) hx, Instr.extract, hi])

theorem QOk.nilCheck {a : Addr} (hx : ev e x = some (.pointer (some a)))  : QOk P (.nilCheck x) ty e [] g (.pointer (some a)) :=
  (fun _ _ _ w hf _ o ho _ => by simp [execOp, ho, hf.ev (by simp [Op.operands, Call.operands]) hx])
theorem QOk.nilCheckF {f : Nat} {a b : Array Value} (hx : ev e x = some (.func (.func f) a b))  : QOk P (.nilCheck x) ty e [] g (.func (.func f) a b) :=
  (fun _ _ _ w hf _ o ho _ => by simp [execOp, ho, hf.ev (by simp [Op.operands, Call.operands]) hx])

theorem add0 (b off n : Nat) : (⟨b, off, none⟩ : Addr).add n = ⟨b, off + n, none⟩ := by
  unfold Addr.add; split
  · simp_all
  · rfl

theorem TF.get {P : Program} {s f fo ft : Nat} {fields : List (Nat × Nat)} (h : TF P s fields) (hf : fields[f]? = some (fo, ft)) : ∃ fs fld, P.underlying s = some (.struct fs) ∧ fs[f]? = some fld ∧ fld.offset = fo ∧ fld.type = ft := by
  obtain ⟨fs, hu, rfl⟩ := h.ex
  rw [List.getElem?_map] at hf
  cases hq : fs.toList[f]? with
  | none => simp [hq] at hf
  | some fld =>
    simp [hq] at hf
    exact ⟨fs, fld, hu, by simpa using hq, hf.1, hf.2⟩

theorem QOk.fieldAddr {s : TypeId} {fields : List (Nat × Nat)} {f fo ft : Nat} {b off n by_ : Nat} {zl : List Value} [hT : TF P s fields] (hx : ev e x = some (.pointer (some ⟨b, off, none⟩)))
    (hfl : fields[f]? = some (fo, ft)) [hS : TY P ft (n + 1) by_ zl] : QOk P (.fieldAddr s x f) ty e [] g (.pointer (some ⟨b, off + fo, none⟩)) := by
  obtain ⟨fs, fld, hu, h1, rfl, rfl⟩ := hT.get hfl
  exact (fun _ _ _ w hf _ o ho _ => by simp [execOp, ho, hf.ev (by simp [Op.operands, Call.operands]) hx, Instr.fieldAt, run_underlying hu, h1, Instr.sureAddr, fieldPlace, hS.run, add0])

theorem QOk.indexAddr {t el : TypeId} {kk : IntKind} {i : Int} {b off len cap n : Nat} [hT : TD P t (.slice el)] {by_ : Nat} {zl : List Value} [hS : TY P el n by_ zl]
    (hx : ev e x = some (.slice (some ⟨b, off, none⟩) len cap)) (hy : ev e y = some (.int kk i)) (hi : 0 ≤ i ∧ i < len)
     : QOk P (.indexAddr t x y) ty e [] g (.pointer (some ⟨b, off + i.toNat * n, none⟩)) :=
  (fun _ _ _ w hf _ o ho _ => by simp [execOp, ho, hf.ev (by simp [Op.operands, Call.operands]) hx, hf.ev (by simp [Op.operands, Call.operands]) hy, Instr.indexAt, asIntOf, hT.run, hi, hS.run, add0])

theorem QOk.indexAddrA {t el : TypeId} {kk : IntKind} {i : Int} {b off len n : Nat} [hT : TD P t (.array len el)] {by_ : Nat} {zl : List Value} [hS : TY P el n by_ zl]
    (hx : ev e x = some (.pointer (some ⟨b, off, none⟩))) (hy : ev e y = some (.int kk i)) (hi : 0 ≤ i ∧ i < len)
     : QOk P (.indexAddr t x y) ty e [] g (.pointer (some ⟨b, off + i.toNat * n, none⟩)) :=
  (fun _ _ _ w hf _ o ho _ => by simp [execOp, ho, hf.ev (by simp [Op.operands, Call.operands]) hx, hf.ev (by simp [Op.operands, Call.operands]) hy, Instr.indexAt, asIntOf, hT.run, hi, hS.run, add0, Instr.sureAddr])

theorem QOk.field1 {s : TypeId} {fields : List (Nat × Nat)} {f fo ft : Nat} {cs : List Value} [hT : TF P s fields] (hx : ev e x = some (.agg cs.toArray))
    (hfl : fields[f]? = some (fo, ft)) [hD : TA P ft false] (hv : cs[fo]? = some v) : QOk P (.field s x f) ty e [] g v := by
  obtain ⟨fs, fld, hu, h1, rfl, rfl⟩ := hT.get hfl
  exact (fun _ _ _ w hf _ o ho _ => by simp [execOp, ho, hf.ev (by simp [Op.operands, Call.operands]) hx, Instr.field, run_underlying hu, h1, asAgg, part, hD.run, hv])

theorem QOk.indexStr {t : TypeId} {kk : IntKind} {i : Int} {s : ByteArray} {bt : UInt8} [hT : TD P t .string]
    (hx : ev e x = some (.string s)) (hy : ev e y = some (.int kk i)) (hi : 0 ≤ i) (hb : s[i.toNat]? = some bt)
     : QOk P (.index t x y) ty e [] g (.int .u8 bt.toNat) :=
  (fun _ _ _ w hf _ o ho _ => by simp [execOp, ho, hf.ev (by simp [Op.operands, Call.operands]) hx, hf.ev (by simp [Op.operands, Call.operands]) hy, Instr.index, asIntOf, hT.run, hi, hb])

theorem QOk.lenSlice {t : TypeId} {el : TypeId} {a : Option Addr} {len cap : Nat} [hT : TD P t (.slice el)] (hx : ev e x = some (.slice a len cap))
     : QOk P (.call { callee := .builtin .len, args := #[x], argTypes := #[t] }) ty e [] g (.int .i64 len) :=
  (fun _ _ _ w hf _ o ho _ => by simp [execOp, ho, resolve, invoke, builtin, Builtin.len_, hf.ev (by simp [Op.operands, Call.operands]) hx, hT.run, goInt])
theorem QOk.lenStr {t : TypeId} {s : ByteArray} [hT : TD P t .string] (hx : ev e x = some (.string s))
     : QOk P (.call { callee := .builtin .len, args := #[x], argTypes := #[t] }) ty e [] g (.int .i64 s.size) :=
  (fun _ _ _ w hf _ o ho _ => by simp [execOp, ho, resolve, invoke, builtin, Builtin.len_, hf.ev (by simp [Op.operands, Call.operands]) hx, hT.run, goInt])
theorem QOk.lenArr {t el n : Nat} [hT : TD P t (.array n el)] (hx : ev e x = some v)
     : QOk P (.call { callee := .builtin .len, args := #[x], argTypes := #[t] }) ty e [] g (.int .i64 n) :=
  (fun _ _ _ w hf _ o ho _ => by simp [execOp, ho, resolve, invoke, builtin, Builtin.len_, hf.ev (by simp [Op.operands, Call.operands]) hx, hT.run, goInt])

theorem QOk.min2 {t1 t2 : TypeId} {kk : IntKind} {a b : Int} (hx : ev e x = some (.int kk a)) (hy : ev e y = some (.int kk b))
     : QOk P (.call { callee := .builtin .min, args := #[x, y], argTypes := #[t1, t2] }) ty e [] g (.int kk (min a b)) := by
  intro _ _ _ w hf _ o ho _
  simp [execOp, ho, resolve, invoke, builtin, Builtin.min_, Builtin.min2, hf.ev (by simp [Op.operands, Call.operands]) hx, hf.ev (by simp [Op.operands, Call.operands]) hy]
  omega
theorem QOk.max2 {t1 t2 : TypeId} {kk : IntKind} {a b : Int} (hx : ev e x = some (.int kk a)) (hy : ev e y = some (.int kk b))
     : QOk P (.call { callee := .builtin .max, args := #[x, y], argTypes := #[t1, t2] }) ty e [] g (.int kk (max a b)) := by
  intro _ _ _ w hf _ o ho _
  simp [execOp, ho, resolve, invoke, builtin, Builtin.max_, Builtin.max2, hf.ev (by simp [Op.operands, Call.operands]) hx, hf.ev (by simp [Op.operands, Call.operands]) hy]
  omega
end pureOps
end Go.Zed
