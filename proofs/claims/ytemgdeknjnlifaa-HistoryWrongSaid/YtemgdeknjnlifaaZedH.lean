/- Structs of whole numbers, compared. -/
import Derived.Test.YtemgdeknjnlifaaZedG
import Derived.Laws.StructEq
namespace Go.Zed
open Go
variable {e : List (Nat × Value)} {g : Img} {ty : TypeId} {P : Program}
class TQI (P : Program) (t : Nat) (n : outParam Nat) : Prop where
  und : P.underlying t = some (.struct (P.fieldsOf t))
  held : P.stoodInHeld t = false
  guard : P.eqGuardType P.depth t = false
  fl : ((P.fieldsOf t).toList.all fun f => (f.name != "_") && (match P.underlying f.type with | some (.int _) => true | _ => false)) = true
  off : (P.fieldsOf t).toList.map (·.offset) = List.range n
theorem eqFields_ints {d : Nat} {k : IntKind} : ∀ {fs : List Field} {xs ys : List Int} {m : Nat} {w : World} {as bs : List Int}, (fs.all fun f => (f.name != "_") && (match P.underlying f.type with | some (.int _) => true | _ => false)) = true →
    fs.map (·.offset) = List.range' m fs.length → as.length = m → bs.length = m → xs.length = fs.length → ys.length = fs.length →
    (Op.eqFields (d + 1) ((as ++ xs).map (Value.int k)).toArray ((bs ++ ys).map (Value.int k)).toArray fs).run P w = .ok (decide (xs = ys)) w
  | [], xs, ys, m, w, as, bs, _, _, _, _, h1, h2 => by
    have : xs = [] := List.eq_nil_of_length_eq_zero h1
    have : ys = [] := List.eq_nil_of_length_eq_zero h2
    subst_vars; simp [Op.eqFields]
  | f :: fs, x :: xs, y :: ys, m, w, as, bs, hall, hoff, ha, hb, h1, h2 => by
    simp only [List.all_cons, Bool.and_eq_true, bne_iff_ne, ne_eq] at hall
    obtain ⟨⟨hname, hty⟩, hall⟩ := hall
    simp only [List.map_cons, List.length_cons, List.range'_succ, List.cons.injEq] at hoff
    obtain ⟨ho, hoff⟩ := hoff
    cases hu : P.underlying f.type with
    | none => simp [hu] at hty
    | some dsc =>
      cases dsc with
      | int kk =>
        have hagg : (isAgg f.type).run P w = .ok false w := by simp [isAgg, run_underlying hu]
        have hp : ∀ (cs : List Int) (zs : List Int) (z : Int), cs.length = m → (part f.type ((cs ++ z :: zs).map (Value.int k)).toArray f.offset).run P w = .ok (.int k z) w := by
          intro cs zs z hc
          simp [part, hagg, ho, ← hc]
        have heq := run_equalIn_int w d f.type k kk x y hu
        have ih := eqFields_ints (d := d) (k := k) (w := w) (m := m + 1) (as := as ++ [x]) (bs := bs ++ [y]) (xs := xs) (ys := ys) hall hoff (by simp [ha]) (by simp [hb]) (by simpa using h1) (by simpa using h2)
        simp only [List.append_assoc, List.cons_append, List.nil_append] at ih
        simp only [Op.eqFields, if_pos hname, Sem.run_bind, hp as xs x ha, hp bs ys y hb, Result.andThen_ok, heq]
        by_cases hxy : x = y
        · subst hxy
          simp only [List.map_append, List.map_cons] at ih
          simp [ih]
        · simp [hxy]
      | _ => simp [hu] at hty
  | _ :: _, [], _, _, _, _, _, _, _, _, _, h1, _ => by simp at h1
  | _ :: _, _ :: _, [], _, _, _, _, _, _, _, _, _, h2 => by simp at h2
class inductive IntsK (k : IntKind) : List Value → outParam (List Int) → Prop
  | nil : IntsK k [] []
  | cons {n : Int} {l : List Value} {m : List Int} (h : IntsK k l m) : IntsK k (.int k n :: l) (n :: m)
instance {k : IntKind} : IntsK k [] [] := .nil
instance {k : IntKind} {n : Int} {l : List Value} {m : List Int} [h : IntsK k l m] : IntsK k (.int k n :: l) (n :: m) := .cons h
theorem IntsK.eq {k : IntKind} {l : List Value} {m : List Int} (h : IntsK k l m) : l = m.map (.int k) := by
  induction h with
  | nil => rfl
  | cons _ ih => rw [ih]; rfl
theorem QOk.eqI {x y : Operand} {t yt n : Nat} {xs ys : List Value} {as bs : List Int} [hQ : TQI P t n] (hx : ev e x = some (.agg xs.toArray)) (hy : ev e y = some (.agg ys.toArray)) [ha : IntsK .i64 xs as] [hb : IntsK .i64 ys bs]
    (hn : (Nat.beq as.length n && Nat.beq bs.length n) = true) : QOk P (.binOp .eql t x y yt) ty e [] g (.bool (decide (as = bs))) := by
  intro _ _ _ w hf _ o ho _
  simp only [Bool.and_eq_true] at hn
  have h1 := Nat.eq_of_beq_eq_true hn.1
  have h2 := Nat.eq_of_beq_eq_true hn.2
  have hxe := ha.eq
  have hye := hb.eq
  subst hxe; subst hye
  have hlen : (P.fieldsOf t).toList.length = n := by have := congrArg List.length hQ.off; simpa using this
  have := eqFields_ints (P := P) (d := 9998) (k := .i64) (fs := (P.fieldsOf t).toList) (xs := as) (ys := bs) (m := 0) (w := w) (as := []) (bs := []) hQ.fl (by rw [hQ.off, hlen, List.range_eq_range']) rfl rfl (by omega) (by omega)
  simp only [List.nil_append] at this
  have hs := run_equalIn_struct (P := P) w 9999 t (as.map (Value.int .i64)).toArray (bs.map (Value.int .i64)).toArray hQ.und hQ.held
  simp only [execOp, ho, hf.ev (by simp [Op.operands, Call.operands]) hx, hf.ev (by simp [Op.operands, Call.operands]) hy, Sem.run_bind, run_eqGuard_agg w _ t _ _ _ _ hQ.guard, Result.andThen_ok, run_eql_struct, hs, this, Sem.run_pure]
theorem QOk.eqIT {x y : Operand} {t yt n : Nat} {xs ys : List Value} {as bs : List Int} [hQ : TQI P t n] (hx : ev e x = some (.agg xs.toArray)) (hy : ev e y = some (.agg ys.toArray)) [ha : IntsK .i64 xs as] [hb : IntsK .i64 ys bs]
    (hn : (Nat.beq as.length n && Nat.beq bs.length n) = true) (h : as = bs) : QOk P (.binOp .eql t x y yt) ty e [] g (.bool true) := by
  have := QOk.eqI (P := P) (ty := ty) (g := g) (t := t) (yt := yt) hx hy hn
  rwa [decide_eq_true h] at this
theorem QOk.eqIF {x y : Operand} {t yt n : Nat} {xs ys : List Value} {as bs : List Int} [hQ : TQI P t n] (hx : ev e x = some (.agg xs.toArray)) (hy : ev e y = some (.agg ys.toArray)) [ha : IntsK .i64 xs as] [hb : IntsK .i64 ys bs]
    (hn : (Nat.beq as.length n && Nat.beq bs.length n) = true) (h : as ≠ bs) : QOk P (.binOp .eql t x y yt) ty e [] g (.bool false) := by
  have := QOk.eqI (P := P) (ty := ty) (g := g) (t := t) (yt := yt) hx hy hn
  rwa [decide_eq_false h] at this
end Go.Zed
