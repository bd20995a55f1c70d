/- Structs of numbers and strings, compared field by field. -/
import Derived.Test.YtemgdeknjnlifaaZedH
namespace Go.Zed
open Go
variable {e : List (Nat × Value)} {g : Img} {ty : TypeId} {P : Program}
inductive Flds (P : Program) : List Field → Nat → List Value → List Value → Bool → Prop
  | nil {m : Nat} : Flds P [] m [] [] true
  | int {f : Field} {fs : List Field} {m : Nat} {k k' : IntKind} {x y : Int} {xs ys : List Value} {b : Bool} (hu : P.underlying f.type = some (.int k')) (hn : (f.name != "_") = true) (ho : f.offset = m) (h : Flds P fs (m + 1) xs ys b) :
      Flds P (f :: fs) m (.int k x :: xs) (.int k y :: ys) (decide (x = y) && b)
  | str {f : Field} {fs : List Field} {m : Nat} {x y : ByteArray} {xs ys : List Value} {b : Bool} (hu : P.underlying f.type = some .string) (hn : (f.name != "_") = true) (ho : f.offset = m) (h : Flds P fs (m + 1) xs ys b) :
      Flds P (f :: fs) m (.string x :: xs) (.string y :: ys) ((x.toList == y.toList) && b)
theorem Flds.run {fs : List Field} {m : Nat} {xs ys : List Value} {b : Bool} (h : Flds P fs m xs ys b) : ∀ {d : Nat} {w : World} {as bs : List Value}, as.length = m → bs.length = m → (Op.eqFields (d + 1) (as ++ xs).toArray (bs ++ ys).toArray fs).run P w = .ok b w := by
  induction h with
  | nil => intros; simp [Op.eqFields]
  | @int f fs m k k' x y xs ys b hu hn ho _ ih =>
    intro d w as bs ha hb
    have hagg : (isAgg f.type).run P w = .ok false w := by simp [isAgg, run_underlying hu]
    have hp : ∀ (cs zs : List Value) (z : Value), cs.length = m → (part f.type (cs ++ z :: zs).toArray f.offset).run P w = .ok z w := by
      intro cs zs z hc
      simp [part, hagg, ho, ← hc]
    have ih := ih (d := d) (w := w) (as := as ++ [.int k x]) (bs := bs ++ [.int k y]) (by simp [ha]) (by simp [hb])
    simp only [List.append_assoc, List.cons_append, List.nil_append] at ih
    have hname : f.name ≠ "_" := by simpa using hn
    simp only [Op.eqFields, if_pos hname, Sem.run_bind, hp as xs _ ha, hp bs ys _ hb, Result.andThen_ok, run_equalIn_int w d f.type k k' x y hu]
    by_cases hxy : x = y
    · subst hxy; simp [ih]
    · simp [hxy]
  | @str f fs m x y xs ys b hu hn ho _ ih =>
    intro d w as bs ha hb
    have hagg : (isAgg f.type).run P w = .ok false w := by simp [isAgg, run_underlying hu]
    have hp : ∀ (cs zs : List Value) (z : Value), cs.length = m → (part f.type (cs ++ z :: zs).toArray f.offset).run P w = .ok z w := by
      intro cs zs z hc
      simp [part, hagg, ho, ← hc]
    have ih := ih (d := d) (w := w) (as := as ++ [.string x]) (bs := bs ++ [.string y]) (by simp [ha]) (by simp [hb])
    simp only [List.append_assoc, List.cons_append, List.nil_append] at ih
    have hname : f.name ≠ "_" := by simpa using hn
    simp only [Op.eqFields, if_pos hname, Sem.run_bind, hp as xs _ ha, hp bs ys _ hb, Result.andThen_ok, run_equalIn_string w d f.type x y hu]
    cases hxy : (x.toList == y.toList)
    · simp
    · simp [ih]
class SQ (P : Program) (t : Nat) : Prop where
  und : P.underlying t = some (.struct (P.fieldsOf t))
  held : P.stoodInHeld t = false
  guard : P.eqGuardType P.depth t = false
theorem QOk.eqS {x y : Operand} {t yt : Nat} {xs ys : List Value} {b r : Bool} [hQ : SQ P t] (hx : ev e x = some (.agg xs.toArray)) (hy : ev e y = some (.agg ys.toArray)) (h : Flds P (P.fieldsOf t).toList 0 xs ys b) (hr : b = r) :
    QOk P (.binOp .eql t x y yt) ty e [] g (.bool r) := by
  subst hr
  intro _ _ _ w hf _ o ho _
  have := h.run (d := 9998) (w := w) (as := []) (bs := []) rfl rfl
  simp only [List.nil_append] at this
  have hs := run_equalIn_struct (P := P) w 9999 t xs.toArray ys.toArray hQ.und hQ.held
  simp only [execOp, ho, hf.ev (by simp [Op.operands, Call.operands]) hx, hf.ev (by simp [Op.operands, Call.operands]) hy, Sem.run_bind, run_eqGuard_agg w _ t _ _ _ _ hQ.guard, Result.andThen_ok, run_eql_struct, hs, this, Sem.run_pure]
theorem QOk.neS {x y : Operand} {t yt : Nat} {xs ys : List Value} {b r : Bool} [hQ : SQ P t] (hx : ev e x = some (.agg xs.toArray)) (hy : ev e y = some (.agg ys.toArray)) (h : Flds P (P.fieldsOf t).toList 0 xs ys b) (hr : (!b) = r) :
    QOk P (.binOp .neq t x y yt) ty e [] g (.bool r) := by
  subst hr
  intro _ _ _ w hf _ o ho _
  have := h.run (d := 9998) (w := w) (as := []) (bs := []) rfl rfl
  simp only [List.nil_append] at this
  have hs := run_equalIn_struct (P := P) w 9999 t xs.toArray ys.toArray hQ.und hQ.held
  simp only [execOp, ho, hf.ev (by simp [Op.operands, Call.operands]) hx, hf.ev (by simp [Op.operands, Call.operands]) hy, Sem.run_bind, run_eqGuard_agg w _ t _ _ _ _ hQ.guard, Result.andThen_ok, run_neq_struct, hs, this, Sem.run_pure]
end Go.Zed
