/- Room for a slice; parts of slices and strings. -/
import Derived.Test.YtemgdeknjnlifaaZedV
import Derived.Lib.AppendZeros
namespace Go.Zed
open Go Go.Lib
variable {c : Cx} {k k' : List Item} {D D' : List Deferred} {e e' : List (Nat × Value)} {own own' : List HProp} {g g' : Img} {ty : TypeId} {K : Value → List HProp → Img → Prop}
theorem OpOk.growNil {x y : Operand} {t tn T sz by_ n : Nat} {zl : List Value} {kk kn : IntKind} [hT : TD c.P t (.slice T)] [hN : TD c.P tn (.int kn)] [hS : TY c.P T sz by_ zl]
    {m : Int} (hx : ev e x = some (.slice none 0 0)) (hy : ev e y = some (.int kk m)) (hmn : m = n) (h0 : 0 < n) (hsz : Nat.blt 0 sz = true) (hB : n * by_ ≤ 281474976710656) (hm : n ≤ maxLen)
    (hK : ∀ b cap sp, n ≤ cap → cap ≤ maxLen → sp.length = cap * sz → K (.slice (some ⟨b, 0, none⟩) n cap) (cel b T sp :: own) g) : OpOk c D (.call { callee := .builtin .append, args := #[x, y], argTypes := #[t, tn] }) ty e own g K := by
  subst hmn
  refine .of_run (by simp) fun hle F tmps w hf hh => ?_
  obtain ⟨i, z, hi, hisz, hiby, hz, hzl, hzs⟩ := hS.ex
  have hzs : z.cells.size = sz := by rw [hzl]; simpa using hzs
  have hsz' : 0 < sz := by simpa using hsz
  have hr := run_append_nil_zeros (P := c.P) w t tn ty T i z kk kn hT.eq hN.eq hi hz n h0 (by omega) (by simp only [maxLen] at hm; omega) (by rw [hiby]; omega)
  have hge := grownCap_ge w n 0 T
  have hcl := grownCap_le_maxLen w n 0 T hm
  refine ⟨_, _, g, _, Le.refl g, hK w.heap.size (grownCap w n 0 T) (Builtin.zeroCells z.cells n ++ Builtin.zeroCells z.cells (grownCap w n 0 T - n)).toList hge hcl ?_, hh.alloc (w' := w.drew.alloc (.cells (Builtin.zeroCells z.cells n ++ Builtin.zeroCells z.cells (grownCap w n 0 T - n)) T)) (by exact congrArg w.heap.push (by rw [Array.toArray_toList])), fun o ho hty => .inl ?_⟩
  · simp only [Array.length_toList, Array.size_append, size_zeroCells, hzs]
    rw [← Nat.add_mul, Nat.add_sub_cancel' hge]
  · simp [execOp, ho, hty, resolve, invoke, builtin, hf.ev (by simp [Op.operands, Call.operands]) hx, hf.ev (by simp [Op.operands, Call.operands]) hy, hr]
/-- A call that is lent L, keeps A as it is, and makes something new. -/
theorem OpOk.lendN {fx : Operand} {f : Nat} {fl cl vs : List Value} {xs : List Operand} {ats : Array TypeId} {L A B : List HProp} {Q : Value → List HProp → Prop} [hF : CF c.P f]
    (hf : ev e fx = some (.func (.func f) fl.toArray cl.toArray)) (hx : evs e xs = some vs) (hc : ∀ F g1, Le g g1 → Frz L g1 → Fc c.P f (fl ++ (vs ++ cl)).toArray A F g1 (fun v own' _ => ∃ o2, own' = A ++ o2 ∧ Q v o2))
    (hp : Pick own (L ++ A) B) (hK : ∀ v o2 g', Le g g' → Q v o2 → K v (o2 ++ own) g') :
    OpOk c D (.call { callee := .value fx, args := xs.toArray, argTypes := ats }) ty e own g K := by
  refine OpOk.post (K' := fun v o1 g' => ∃ o2, Le g g' ∧ Q v o2 ∧ o1 = (L ++ (A ++ o2)) ++ B) (OpOk.callV hf hx (fun F => Fc.lend (own := A) (L := L) (fun F g1 hl hz => hc F g1 hl hz) F) hp ?_) ?_
  · rintro v own' g' hle ⟨_, rfl, o2, rfl, hQ⟩
    exact ⟨o2, hle, hQ, rfl⟩
  · rintro v o1 g' _ ⟨o2, hle, hQ, rfl⟩
    refine ⟨_, hK v o2 g' hle hQ, ?_⟩
    refine List.Perm.trans ?_ (hp.perm.symm.append_left o2)
    rw [← List.append_assoc, ← List.append_assoc]
    exact ((List.perm_append_comm (l₁ := L ++ A) (l₂ := o2)).append_right B).trans (by rw [List.append_assoc])
/-- A call that is lent L, keeps A as it is, and gives a value. -/
theorem OpOk.lendK {fx : Operand} {f : Nat} {fl cl vs : List Value} {xs : List Operand} {ats : Array TypeId} {L A B : List HProp} {u : Value} [hF : CF c.P f]
    (hf : ev e fx = some (.func (.func f) fl.toArray cl.toArray)) (hx : evs e xs = some vs) (hc : ∀ F g1, Le g g1 → Frz L g1 → Fc c.P f (fl ++ (vs ++ cl)).toArray A F g1 (fun v own' _ => own' = A ∧ v = u))
    (hp : Pick own (L ++ A) B) (hK : ∀ g', Le g g' → K u own g') :
    OpOk c D (.call { callee := .value fx, args := xs.toArray, argTypes := ats }) ty e own g K := by
  refine OpOk.lendN (Q := fun v o2 => o2 = [] ∧ v = u) hf hx (fun F g1 hl hz => (hc F g1 hl hz).mono ?_) hp ?_
  · rintro v own' g' _ ⟨rfl, rfl⟩
    exact ⟨[], by simp, rfl, rfl⟩
  · rintro v o2 g' hle ⟨rfl, rfl⟩
    exact hK g' hle
theorem w32 {n : Int} (h : -2147483648 ≤ n ∧ n ≤ 2147483647) : IntKind.i32.wrap n = n := by rw [IntKind.wrap_i32]; omega
section
variable {P : Program} {x y : Operand} {t : TypeId}
theorem QOk.capSlice {el : TypeId} {a : Option Addr} {len cap : Nat} [hT : TD P t (.slice el)] (hx : ev e x = some (.slice a len cap)) :
    QOk P (.call { callee := .builtin .cap, args := #[x], argTypes := #[t] }) ty e [] g (.int .i64 cap) :=
  (fun _ _ _ w hf _ o ho _ => by simp [execOp, ho, resolve, invoke, builtin, Builtin.cap_, hf.ev (by simp [Op.operands, Call.operands]) hx, hT.run, goInt])
/-- The first places of a slice, and those behind it. -/
theorem QOk.sliceTo {el sz by_ : Nat} {zl : List Value} {kk : IntKind} {b off n cap : Nat} {i : Int} [hT : TD P t (.slice el)] [hS : TY P el sz by_ zl] (hx : ev e x = some (.slice (some ⟨b, off, none⟩) n cap)) (hy : ev e y = some (.int kk i)) (hh : 0 ≤ i ∧ i ≤ cap) :
    QOk P (.slice t x none (some y) none) ty e [] g (.slice (some ⟨b, off, none⟩) i.toNat cap) := by
  intro _ _ _ w hf _ o ho _
  simp [execOp, ho, hf.ev (by simp [Op.operands]) hx, hf.ev (by simp [Op.operands]) hy, Instr.sliceAt, Instr.slice, Instr.sliceBounds, Instr.sliceBound, asIntOf, hT.run, hS.run, hh, add0]
theorem QOk.sliceNil0 {el sz by_ : Nat} {zl : List Value} {kk : IntKind} [hT : TD P t (.slice el)] [hS : TY P el sz by_ zl] (hx : ev e x = some (.slice none 0 0)) (hy : ev e y = some (.int kk 0)) :
    QOk P (.slice t x none (some y) none) ty e [] g (.slice none 0 0) := by
  intro _ _ _ w hf _ o ho _
  simp [execOp, ho, hf.ev (by simp [Op.operands]) hx, hf.ev (by simp [Op.operands]) hy, Instr.sliceAt, Instr.slice, Instr.sliceBounds, Instr.sliceBound, asIntOf, hT.run, hS.run]
theorem QOk.strFrom {kk : IntKind} {s s' : ByteArray} {i : Int} [hT : TD P t .string] (hx : ev e x = some (.string s)) (hy : ev e y = some (.int kk i)) (hi : 0 ≤ i ∧ i ≤ s.size) (hs : s.extract i.toNat s.size = s') :
    QOk P (.slice t x (some y) none none) ty e [] g (.string s') := by
  intro _ _ _ w hf _ o ho _
  subst hs
  simp [execOp, ho, hf.ev (by simp [Op.operands]) hx, hf.ev (by simp [Op.operands]) hy, Instr.sliceAt, Instr.slice, Instr.sliceBounds, Instr.sliceBound, asIntOf, hT.run, hi]
theorem QOk.convRuneE {s t : TypeId} {k0 k1 : IntKind} {a : Int} {u : ByteArray} [hS : TD P s (.int k0)] [hT : TD P t .string] (hx : ev e x = some (.int k1 a)) (hu : Utf8.encode a = u) : QOk P (.convert s t x) ty e [] g (.string u) := by
  subst hu; exact .convRune hx
theorem QOk.strTo {kk : IntKind} {s s' : ByteArray} {i : Int} [hT : TD P t .string] (hx : ev e x = some (.string s)) (hy : ev e y = some (.int kk i)) (hi : 0 ≤ i ∧ i ≤ s.size) (hs : s.extract 0 i.toNat = s') :
    QOk P (.slice t x none (some y) none) ty e [] g (.string s') := by
  intro _ _ _ w hf _ o ho _
  subst hs
  simp [execOp, ho, hf.ev (by simp [Op.operands]) hx, hf.ev (by simp [Op.operands]) hy, Instr.sliceAt, Instr.slice, Instr.sliceBounds, Instr.sliceBound, asIntOf, hT.run, hi]
end
end Go.Zed
