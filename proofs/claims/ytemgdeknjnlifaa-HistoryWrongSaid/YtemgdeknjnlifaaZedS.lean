/- Stores at a place that is known by a hypothesis. -/
import Derived.Test.YtemgdeknjnlifaaZedG
namespace Go.Zed
open Go
variable {c : Cx} {k k' : List Item} {D D' : List Deferred} {e e' : List (Nat × Value)} {own own' : List HProp} {g g' : Img} {ty : TypeId} {K : Value → List HProp → Img → Prop}
/-- The cells vs, put at the place off of l, give l'. -/
def SetOk (l : List Value) (off : Nat) (vs l' : List Value) : Prop := l' = l.take off ++ vs ++ l.drop (off + vs.length) ∧ off + vs.length ≤ l.length
theorem SetOk.len {l vs l' : List Value} {off : Nat} (h : SetOk l off vs l') : l'.length = l.length := by
  obtain ⟨rfl, h⟩ := h
  simp
  omega
theorem SetW.ok {l vs l' : List Value} {o : Nat} (h : SetW l o vs l') : SetOk l o vs l' := h.eq
theorem setOk_flat {sz j : Nat} {vs x x' sp : List Value} : ∀ {es : List (List Value)} {i : Nat}, (∀ y ∈ es, y.length = sz) → es[i]? = some x → SetOk x j vs x' → SetOk (es.flatten ++ sp) (0 + i * sz + j) vs ((es.set i x').flatten ++ sp)
  | [], i, _, h, _ => by simp at h
  | y :: es, 0, hl, h, hs => by
    obtain rfl : y = x := by simpa using h
    obtain ⟨rfl, hle⟩ := hs
    refine ⟨?_, by simp; omega⟩
    simp only [Nat.zero_mul, Nat.zero_add, List.set_cons_zero, List.flatten_cons, List.append_assoc]
    rw [List.take_append_of_le_length (by omega), List.drop_append_of_le_length (by omega)]
  | y :: es, i + 1, hl, h, hs => by
    have ih := setOk_flat (sp := sp) (fun z hz => hl z (List.mem_cons_of_mem _ hz)) (by simpa using h) hs
    have hy := hl y (List.mem_cons_self ..)
    obtain ⟨h1, h2⟩ := ih
    have e1 : 0 + (i + 1) * sz + j = y.length + (0 + i * sz + j) := by rw [hy, Nat.succ_mul]; omega
    refine ⟨?_, ?_⟩
    · rw [e1]
      simp only [List.set_cons_succ, List.flatten_cons, List.append_assoc, h1]
      rw [List.take_length_add_append, show y.length + (0 + i * sz + j) + vs.length = y.length + ((0 + i * sz + j) + vs.length) by omega, List.drop_length_add_append]
      simp
    · rw [e1]; simp only [List.flatten_cons, List.append_assoc, List.length_append] at h2 ⊢; omega
theorem setOk_flat0 {sz : Nat} {vs x sp : List Value} {es : List (List Value)} {i : Nat} (hl : ∀ y ∈ es, y.length = sz) (hi : es[i]? = some x) (hv : vs.length = sz) : SetOk (es.flatten ++ sp) (0 + i * sz) vs ((es.set i vs).flatten ++ sp) := by
  have hx := hl x (List.mem_of_getElem? hi)
  have := setOk_flat (j := 0) (vs := vs) (x := x) (x' := vs) (sp := sp) hl hi ⟨by simp [hv, hx], by omega⟩
  simpa using this
theorem OpOk.storeL {x y : Operand} {T t b off sz by_ : Nat} {zl l vs l' : List Value} {v : Value} {f : List Value → List HProp} [hS : TY c.P t sz by_ zl] (hx : ev e x = some (.pointer (some ⟨b, off, none⟩))) (hy : ev e y = some v)
    [hcells : Cells v vs] [hlen : Len vs sz] (h1 : (vs.all Value.oneCell') = true) [hup : Up b own T l f] (hw : SetOk l off vs l') (hK : K undef (f l') g) : OpOk c D (.store t x y) ty e own g K := by
  have hv := hcells.eq
  have hn := hlen.eq
  have hu := hup.upd l'
  generalize f l' = own' at hK hu
  refine .of_run (by simp) fun hle F tmps w hf hh => ?_
  obtain ⟨r, hp1, hp2⟩ := hu.perm
  have hh1 := hh.perm hp1
  have hb := hh1.blk
  have hst := run_storeCells_at c.P b off T vs 0 l.toArray w hb (by simpa using hw.2) (fun v hv => (List.all_eq_true.1 h1) v hv)
  have hset := hh1.set (o' := .cells l'.toArray T (0, 0)) (w' := w.setRow b l'.toArray) (setRow_heap_eq hb)
  refine ⟨undef, own', g, w.setRow b l'.toArray, Le.refl g, hK, hset.perm hp2, fun o ho _ => .inr ⟨rfl, ?_⟩⟩
  simp only [Nat.add_zero, List.toList_toArray] at hst
  rw [← hw.1] at hst
  subst hn
  simp [execOp, ho, hf.ev (by simp [Op.operands, Call.operands]) hx, hf.ev (by simp [Op.operands, Call.operands]) hy, Instr.storeAt, Instr.sureAddr, storeVar, hv, hS.run, hst]
end Go.Zed
