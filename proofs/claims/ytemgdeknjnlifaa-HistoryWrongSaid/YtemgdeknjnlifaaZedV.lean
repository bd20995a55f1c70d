/- Maps of one's own: made, read, written. Iterators that have something of their own. -/
import Derived.Test.YtemgdeknjnlifaaZedN
import Derived.MapKept
namespace Go.Zed
open Go Go.MapKept

variable {c : Cx} {k k' : List Item} {D D' : List Deferred} {e e' : List (Nat × Value)} {own own' : List HProp} {g g' : Img} {ty : TypeId} {K : Value → List HProp → Img → Prop}

class KeyD (d : TypeDesc) (k : Value) : Prop where is : IsKey d k
instance {s : ByteArray} : KeyD .string (.string s) := ⟨trivial⟩
instance {q : IntKind} {n : Int} : KeyD (.int q) (.int q n) := ⟨rfl⟩
/-- The zero value of a type. -/
class ZV (P : Program) (t : TypeId) (z : outParam Value) : Prop where run : ∀ w, (zeroValue t).run P w = .ok z w

/-- A map of one's own: what it holds by its keys. -/
def mp (d : TypeDesc) (b : Nat) (f : Value → Option Value) : HProp := fun fr => ∃ (es : Array MapEntry) (clock : Nat), fr = [(b, .map es clock)] ∧ (∀ x ∈ es.toList, IsKey d x.key) ∧ (es.toList.map (·.key)).Nodup ∧
  (∀ x ∈ es.toList, f x.key = some x.val) ∧ (∀ q v, IsKey d q → f q = some v → ∃ x ∈ es.toList, x.key = q)

class inductive TkM (b : Nat) : List HProp → outParam TypeDesc → outParam (Value → Option Value) → outParam (List HProp) → Prop
  | there {q : HProp} {own r : List HProp} {d : TypeDesc} {f : Value → Option Value} (h : TkM b own d f r) : TkM b (q :: own) d f (q :: r)
  | here {d : TypeDesc} {f : Value → Option Value} {r : List HProp} : TkM b (mp d b f :: r) d f r
instance {b : Nat} {q : HProp} {own r : List HProp} {d : TypeDesc} {f : Value → Option Value} [h : TkM b own d f r] : TkM b (q :: own) d f (q :: r) := .there h
instance {b : Nat} {d : TypeDesc} {f : Value → Option Value} {r : List HProp} : TkM b (mp d b f :: r) d f r := .here
theorem TkM.take {b : Nat} {d : TypeDesc} {f : Value → Option Value} {own r : List HProp} (h : TkM b own d f r) : Take (mp d b f) own r := by
  induction h with
  | here => exact .here
  | there _ ih => exact .there ih

theorem Holds.openMp {d : TypeDesc} {b : Nat} {f : Value → Option Value} {F : Frag} {w : World} (h : Holds (mp d b f :: own) F g w) :
    ∃ es clock, Holds (Zed.blk b (.map es clock) :: own) F g w ∧ (∀ x ∈ es.toList, IsKey d x.key) ∧ (es.toList.map (·.key)).Nodup ∧ (∀ x ∈ es.toList, f x.key = some x.val) ∧ (∀ q v, IsKey d q → f q = some v → ∃ x ∈ es.toList, x.key = q) := by
  obtain ⟨fr, ⟨f1, f2, rfl, ⟨es, clock, rfl, h1, h2, h3, h4⟩, hs⟩, hg⟩ := h
  exact ⟨es, clock, ⟨_, ⟨_, f2, rfl, rfl, hs⟩, hg⟩, h1, h2, h3, h4⟩
theorem Holds.closeMp {d : TypeDesc} {b : Nat} {f : Value → Option Value} {es : Array MapEntry} {clock : Nat} {F : Frag} {w : World} (h : Holds (Zed.blk b (.map es clock) :: own) F g w)
    (h1 : ∀ x ∈ es.toList, IsKey d x.key) (h2 : (es.toList.map (·.key)).Nodup) (h3 : ∀ x ∈ es.toList, f x.key = some x.val) (h4 : ∀ q v, IsKey d q → f q = some v → ∃ x ∈ es.toList, x.key = q) : Holds (mp d b f :: own) F g w := by
  obtain ⟨fr, ⟨f1, f2, rfl, rfl, hs⟩, hg⟩ := h
  exact ⟨_, ⟨_, f2, rfl, ⟨es, clock, rfl, h1, h2, h3, h4⟩, hs⟩, hg⟩

theorem OpOk.makeMap {t KT E : TypeId} {d : TypeDesc} [TD c.P t (.map KT E)] [TD c.P KT d] (hK : ∀ b, K (.map (some b)) (mp d b (fun _ => none) :: own) g) : OpOk c D (.makeMap t none) ty e own g K := by
  refine .of_run (by simp) fun hle F tmps w hf hh => ?_
  refine ⟨.map (some w.heap.size), _, g, w.alloc (.map #[] 0), Le.refl g, hK _, (hh.alloc (w' := w.alloc (.map #[] 0)) rfl).closeMp (by simp) (by simp) (by simp) (by simp), fun o ho _ => .inl ?_⟩
  simp [execOp, ho, Instr.makeMap, Result.andThen]

section
variable {T KT E b : Nat} {d : TypeDesc} {f : Value → Option Value} {m x y : Operand} {q v z : Value} {r : List HProp}
theorem run_look {P : Program} [hT : TD P T (.map KT E)] [hD : TD P KT d] [hk : KeyD d q] [hz : ZV P E z] {F : Frag} {w : World} (hh : Holds (mp d b f :: own) F g w) (ok : Bool) :
    (Instr.lookup T (.map (some b)) q ok).run P w = .ok (if ok then .tuple #[(f q).getD z, .bool (f q).isSome] else (f q).getD z) w := by
  obtain ⟨es, clock, hb, h1, h2, h3, h4⟩ := hh.openMp
  have hbl := hb.blk
  rcases findNow_spec hk.is es.toList 0 h1 with ⟨hn, hno⟩ | ⟨j, e0, hs, hj, he⟩
  · have hfq : f q = none := by
      cases hfq : f q with
      | none => rfl
      | some v =>
        obtain ⟨x, hx, hxq⟩ := h4 q v hk.is hfq
        exact absurd hxq (hno x hx)
    simp [Instr.lookup, run_underlying hT.eq, MapKept.run_getObj_map hbl, run_checkKey hD.eq hk.is, run_findKey hD.eq hn, hz.run, hfq, Result.andThen]
  · have hfq : f q = some e0.val := by rw [← he]; exact h3 e0 (List.mem_of_getElem? hj)
    simp [Instr.lookup, run_underlying hT.eq, MapKept.run_getObj_map hbl, run_checkKey hD.eq hk.is, run_findKey hD.eq hs, hfq, Result.andThen]
theorem OpOk.lookup [hT : TD c.P T (.map KT E)] (hm : ev e m = some (.map (some b))) (hq : ev e x = some q) [ht : TkM b own d f r] [hD : TD c.P KT d] [hk : KeyD d q] [hz : ZV c.P E z]
    (hK : K ((f q).getD z) own g) : OpOk c D (.lookup T m x false) ty e own g K := by
  refine .of_run (by simp) fun hle F tmps w hf hh => ?_
  have hr := run_look (P := c.P) (T := T) (KT := KT) (E := E) (q := q) (z := z) (hh.perm ht.take.perm) false
  refine ⟨_, own, g, w, Le.refl g, hK, hh, fun o ho _ => .inl ?_⟩
  simp only [Bool.false_eq_true, if_false] at hr
  simp [execOp, ho, hf.ev (by simp [Op.operands]) hm, hf.ev (by simp [Op.operands]) hq, hr]
theorem OpOk.lookupE {u : Value} [hT : TD c.P T (.map KT E)] (hm : ev e m = some (.map (some b))) (hq : ev e x = some q) [ht : TkM b own d f r] [hD : TD c.P KT d] [hk : KeyD d q] [hz : ZV c.P E z]
    (hv : (f q).getD z = u) (hK : K u own g) : OpOk c D (.lookup T m x false) ty e own g K := OpOk.lookup hm hq (hv ▸ hK)
theorem OpOk.lookupOk [hT : TD c.P T (.map KT E)] (hm : ev e m = some (.map (some b))) (hq : ev e x = some q) [ht : TkM b own d f r] [hD : TD c.P KT d] [hk : KeyD d q] [hz : ZV c.P E z]
    (hK : K (.tuple [(f q).getD z, .bool (f q).isSome].toArray) own g) : OpOk c D (.lookup T m x true) ty e own g K := by
  refine .of_run (by simp) fun hle F tmps w hf hh => ?_
  have hr := run_look (P := c.P) (T := T) (KT := KT) (E := E) (q := q) (z := z) (hh.perm ht.take.perm) true
  refine ⟨_, own, g, w, Le.refl g, hK, hh, fun o ho _ => .inl ?_⟩
  simp only [if_true] at hr
  simp [execOp, ho, hf.ev (by simp [Op.operands]) hm, hf.ev (by simp [Op.operands]) hq, hr]
theorem QOk.lookupE {P : Program} {u : Value} [hT : TD P T (.map KT E)] (hm : ev e m = some (.map (some b))) (hq : ev e x = some q) [hD : TD P KT d] [hk : KeyD d q] [hz : ZV P E z]
    (hv : (f q).getD z = u) : QOk P (.lookup T m x false) ty e [mp d b f] g u := by
  intro _ _ _ w hf hh o ho _
  have hr := run_look (P := P) (T := T) (KT := KT) (E := E) (q := q) (z := z) hh false
  simp only [Bool.false_eq_true, if_false] at hr
  simp [execOp, ho, hf.ev (by simp [Op.operands]) hm, hf.ev (by simp [Op.operands]) hq, hr, hv]
theorem QOk.lookupOkE {P : Program} {u : Value} {ok : Bool} [hT : TD P T (.map KT E)] (hm : ev e m = some (.map (some b))) (hq : ev e x = some q) [hD : TD P KT d] [hk : KeyD d q] [hz : ZV P E z]
    (hv : (f q).getD z = u) (hok : (f q).isSome = ok) : QOk P (.lookup T m x true) ty e [mp d b f] g (.tuple [u, .bool ok].toArray) := by
  intro _ _ _ w hf hh o ho _
  have hr := run_look (P := P) (T := T) (KT := KT) (E := E) (q := q) (z := z) hh true
  simp only [if_true] at hr
  simp [execOp, ho, hf.ev (by simp [Op.operands]) hm, hf.ev (by simp [Op.operands]) hq, hr, hv, hok]
noncomputable def putV (f : Value → Option Value) (q v : Value) : Value → Option Value := fun p => by
  classical exact if p = q then some v else f p
theorem putV_same {f : Value → Option Value} {q v : Value} : putV f q v q = some v := by unfold putV; exact if_pos rfl
theorem putV_other {f : Value → Option Value} {q v p : Value} (h : p ≠ q) : putV f q v p = f p := by unfold putV; exact if_neg h
/-- A store into a map. -/
theorem OpOk.mapPut (f' : Value → Option Value) [hT : TD c.P T (.map KT E)] (hm : ev e m = some (.map (some b))) (hq : ev e x = some q) (hv : ev e y = some v) [ht : TkM b own d f r] [hD : TD c.P KT d] [hk : KeyD d q]
    (hf1 : f' q = some v) (hf2 : ∀ p, IsKey d p → p ≠ q → f' p = f p) (hK : K undef (mp d b f' :: r) g) : OpOk c D (.mapUpdate T m x y) ty e own g K := by
  refine .of_run (by simp) fun hle F tmps w hf hh => ?_
  obtain ⟨es, clock, hb, h1, h2, h3, h4⟩ := (hh.perm ht.take.perm).openMp
  have hbl := hb.blk
  have e1 := hf.ev (D := D) (by simp [Op.operands]) hm
  have e2 := hf.ev (D := D) (by simp [Op.operands]) hq
  have e3 := hf.ev (D := D) (by simp [Op.operands]) hv
  rcases findNow_spec hk.is es.toList 0 h1 with ⟨hn, hno⟩ | ⟨j, e0, hs, hj, he⟩
  · refine ⟨undef, _, g, { w with heap := w.heap.setIfInBounds b (.map (es.push { key := q, val := v, born := clock }) (clock + 1)) }, Le.refl g, hK, (hb.set rfl).closeMp ?_ ?_ ?_ ?_, fun o ho _ => .inr ⟨rfl, ?_⟩⟩
    · intro x hx
      simp only [Array.toList_push, List.mem_append, List.mem_singleton] at hx
      rcases hx with hx | rfl
      · exact h1 x hx
      · exact hk.is
    · rw [Array.toList_push, List.map_append, List.nodup_append]
      refine ⟨h2, by simp, fun a ha b hb => ?_⟩
      simp only [List.map_cons, List.map_nil, List.mem_singleton] at hb
      obtain ⟨x, hx, rfl⟩ := List.mem_map.1 ha
      rw [hb]; exact hno x hx
    · intro x hx
      simp only [Array.toList_push, List.mem_append, List.mem_singleton] at hx
      rcases hx with hx | rfl
      · rw [hf2 _ (h1 x hx) (hno x hx)]; exact h3 x hx
      · exact hf1
    · intro p u hp hpu
      by_cases hpq : p = q
      · exact ⟨_, by rw [Array.toList_push]; exact List.mem_append_right _ (List.mem_singleton.2 rfl), hpq.symm⟩
      · rw [hf2 p hp hpq] at hpu
        obtain ⟨x, hx, hxp⟩ := h4 p u hp hpu
        exact ⟨x, by rw [Array.toList_push]; exact List.mem_append_left _ hx, hxp⟩
    · simp [execOp, ho, e1, e2, e3, Instr.mapUpdate, run_underlying hT.eq, MapKept.run_getObj_map hbl, run_checkKey hD.eq hk.is, run_findKey hD.eq hn, run_setObj_map _ hbl, Result.andThen]
  · have hj' : es[j]? = some e0 := by simpa using hj
    have hjl : j < es.size := (Array.getElem?_eq_some_iff.1 hj').1
    have hst : (Instr.keyThatStays e0.key q).run c.P w = .ok q w := by rw [he]; exact run_keyThatStays hk.is
    have hmod : ∀ i, (es.modify j fun e => { e with key := q, val := v }).toList[i]? = if j = i then some { e0 with key := q, val := v } else es.toList[i]? := by
      intro i
      rw [Array.toList_modify, List.getElem?_modify]
      by_cases hij : j = i
      · subst hij; rw [if_pos rfl, hj]; simp
      · rw [if_neg hij]; simp [hij]
    have hkeys : ∀ x ∈ (es.modify j fun e => { e with key := q, val := v }).toList, x = { e0 with key := q, val := v } ∨ (x ∈ es.toList ∧ x.key ≠ q) := by
      intro x hx
      obtain ⟨i, hi⟩ := List.mem_iff_getElem?.1 hx
      rw [hmod] at hi
      by_cases hij : j = i
      · rw [if_pos hij] at hi; exact .inl (Option.some.inj hi).symm
      · rw [if_neg hij] at hi
        refine .inr ⟨List.mem_of_getElem? hi, fun hxq => hij ?_⟩
        have a1 : (es.toList.map (·.key))[j]? = some q := by rw [List.getElem?_map, hj]; simp [he]
        have a2 : (es.toList.map (·.key))[i]? = some q := by rw [List.getElem?_map, hi]; simp [hxq]
        exact (List.getElem?_inj (List.getElem?_eq_some_iff.1 a1).1 h2).1 (a1.trans a2.symm)
    refine ⟨undef, _, g, { w with heap := w.heap.setIfInBounds b (.map (es.modify j fun e => { e with key := q, val := v }) clock) }, Le.refl g, hK, (hb.set rfl).closeMp ?_ ?_ ?_ ?_, fun o ho _ => .inr ⟨rfl, ?_⟩⟩
    · intro x hx
      rcases hkeys x hx with rfl | ⟨hx, _⟩
      · exact hk.is
      · exact h1 x hx
    · have : (es.modify j fun e => { e with key := q, val := v }).toList.map (·.key) = es.toList.map (·.key) := by
        apply List.ext_getElem?
        intro i
        rw [List.getElem?_map, List.getElem?_map]
        rw [hmod]
        by_cases hij : j = i
        · subst hij; rw [if_pos rfl, hj]; simp [he]
        · rw [if_neg hij]
      rw [this]; exact h2
    · intro x hx
      rcases hkeys x hx with rfl | ⟨hx, hne⟩
      · exact hf1
      · rw [hf2 _ (h1 x hx) hne]; exact h3 x hx
    · intro p u hp hpu
      by_cases hpq : p = q
      · exact ⟨{ e0 with key := q, val := v }, List.mem_of_getElem? (i := j) (by rw [hmod, if_pos rfl]), hpq.symm⟩
      · rw [hf2 p hp hpq] at hpu
        obtain ⟨x, hx, hxp⟩ := h4 p u hp hpu
        obtain ⟨i, hi⟩ := List.mem_iff_getElem?.1 hx
        have hij : j ≠ i := by
          rintro rfl
          rw [hj] at hi
          have := Option.some.inj hi
          subst this
          exact hpq (hxp.symm.trans he)
        exact ⟨x, List.mem_of_getElem? (i := i) (by rw [hmod, if_neg hij]; exact hi), hxp⟩
    · simp [execOp, ho, e1, e2, e3, Instr.mapUpdate, run_underlying hT.eq, MapKept.run_getObj_map hbl, run_checkKey hD.eq hk.is, run_findKey hD.eq hs, hj', hst, run_setObj_map _ hbl, Result.andThen]
theorem OpOk.mapSet [hT : TD c.P T (.map KT E)] (hm : ev e m = some (.map (some b))) (hq : ev e x = some q) (hv : ev e y = some v) [ht : TkM b own d f r] [hD : TD c.P KT d] [hk : KeyD d q]
    (hK : K undef (mp d b (putV f q v) :: r) g) : OpOk c D (.mapUpdate T m x y) ty e own g K := .mapPut _ hm hq hv putV_same (fun _ _ h => putV_other h) hK
end
/-! ### Compared with nil -/
section
variable {P : Program} {x y : Operand} {t yt : TypeId}
theorem run_equal_ptrNil {el : TypeId} [hT : TD P t (.pointer el)] (a : Option Addr) (w : World) : (Op.equal t (.pointer a) (.pointer none)).run P w = .ok a.isNone w := by
  unfold Op.equal Op.maxDepth
  rw [show (10000 : Nat) = 9999 + 1 from rfl, Op.equalIn]
  cases a <;> simp [hT.run]
theorem run_equal_mapNil {kt el : TypeId} [hT : TD P t (.map kt el)] (a : Option Nat) (w : World) : (Op.equal t (.map a) (.map none)).run P w = .ok a.isNone w := by
  unfold Op.equal Op.maxDepth
  rw [show (10000 : Nat) = 9999 + 1 from rfl, Op.equalIn]
  cases a <;> simp [hT.run]
theorem eqGuard_ptr (w : World) (op : BinOp) (t : TypeId) (a b : Option Addr) (x y : Operand) : (eqGuard op t x y (.pointer a) (.pointer b)).run P w = .ok () w := by
  unfold eqGuard; cases op <;> simp
theorem eqGuard_map (w : World) (op : BinOp) (t : TypeId) (a b : Option Nat) (x y : Operand) : (eqGuard op t x y (.map a) (.map b)).run P w = .ok () w := by
  unfold eqGuard; cases op <;> simp
theorem QOk.ptrNil {el : TypeId} [hT : TD P t (.pointer el)] {a : Option Addr} {r : Bool} (hx : ev e x = some (.pointer a)) (hy : ev e y = some (.pointer none)) (hr : a.isNone = r) : QOk P (.binOp .eql t x y yt) ty e [] g (.bool r) := by
  intro _ _ _ w hf _ o ho _
  subst hr
  simp only [execOp, ho, hf.ev (by simp [Op.operands, Call.operands]) hx, hf.ev (by simp [Op.operands, Call.operands]) hy, Sem.run_bind, eqGuard_ptr, Result.andThen_ok, binOp, run_equal_ptrNil, Sem.run_pure]
theorem QOk.ptrNotNil {el : TypeId} [hT : TD P t (.pointer el)] {a : Option Addr} {r : Bool} (hx : ev e x = some (.pointer a)) (hy : ev e y = some (.pointer none)) (hr : a.isSome = r) : QOk P (.binOp .neq t x y yt) ty e [] g (.bool r) := by
  intro _ _ _ w hf _ o ho _
  subst hr
  simp only [execOp, ho, hf.ev (by simp [Op.operands, Call.operands]) hx, hf.ev (by simp [Op.operands, Call.operands]) hy, Sem.run_bind, eqGuard_ptr, Result.andThen_ok, binOp, run_equal_ptrNil, Sem.run_pure]
  cases a <;> rfl
theorem QOk.mapNotNil {kt el : TypeId} [hT : TD P t (.map kt el)] {a : Option Nat} {r : Bool} (hx : ev e x = some (.map a)) (hy : ev e y = some (.map none)) (hr : a.isSome = r) : QOk P (.binOp .neq t x y yt) ty e [] g (.bool r) := by
  intro _ _ _ w hf _ o ho _
  subst hr
  simp only [execOp, ho, hf.ev (by simp [Op.operands, Call.operands]) hx, hf.ev (by simp [Op.operands, Call.operands]) hy, Sem.run_bind, eqGuard_map, Result.andThen_ok, binOp, run_equal_mapNil, Sem.run_pure]
  cases a <;> rfl
end

/-! ### Calls that leave things as they are -/
theorem OpOk.post {op : Op} {K' : Value → List HProp → Img → Prop} (h : OpOk c D op ty e own g K') (hq : ∀ v o1 g', Le g g' → K' v o1 g' → ∃ o2, K v o2 g' ∧ o1.Perm o2) : OpOk c D op ty e own g K := by
  intro hle F tmps w hfit hh ops i rest k cs o ho hop hty hw
  obtain ⟨v, o1, g', w', hle', hK, hh', hs⟩ := h hle F tmps w hfit hh ops i rest k cs o ho hop hty hw
  obtain ⟨o2, hK2, hp⟩ := hq v o1 g' hle' hK
  exact ⟨v, o2, g', w', hle', hK2, hh'.perm hp, hs⟩
theorem OpOk.of_perm {op : Op} (hp : own.Perm own') (h : OpOk c D op ty e own' g K) : OpOk c D op ty e own g K :=
  fun hle F tmps w hfit hh => h hle F tmps w hfit (hh.perm hp)
theorem OpOk.keep {fx : Operand} {f : Nat} {fl cl vs : List Value} {xs : List Operand} {ats : Array TypeId} {u : Value} {A B : List HProp} [hF : CF c.P f]
    (hf : ev e fx = some (.func (.func f) fl.toArray cl.toArray)) (hx : evs e xs = some vs) (hc : ∀ F, Fc c.P f (fl ++ (vs ++ cl)).toArray A F g (fun v own' g' => own' = A ∧ g' = g ∧ v = u)) (hp : Pick own A B) (hK : K u own g) :
    OpOk c D (.call { callee := .value fx, args := xs.toArray, argTypes := ats }) ty e own g K := by
  refine OpOk.post (K' := fun v o1 g' => v = u ∧ g' = g ∧ o1 = A ++ B) (OpOk.callV hf hx hc hp ?_) ?_
  · rintro v own' g' _ ⟨rfl, rfl, rfl⟩
    exact ⟨rfl, rfl, rfl⟩
  · rintro v o1 g' _ ⟨rfl, rfl, rfl⟩
    exact ⟨own, hK, hp.perm.symm⟩
/-- The place of one atom. -/
class inductive UpA (p : HProp) : List HProp → outParam (HProp → List HProp) → Prop
  | there {q : HProp} {own : List HProp} {f : HProp → List HProp} (h : UpA p own f) : UpA p (q :: own) (fun x => q :: f x)
  | here {r : List HProp} : UpA p (p :: r) (fun x => x :: r)
instance {p q : HProp} {own : List HProp} {f : HProp → List HProp} [h : UpA p own f] : UpA p (q :: own) (fun x => q :: f x) := .there h
instance {p : HProp} {r : List HProp} : UpA p (p :: r) (fun x => x :: r) := .here
theorem UpA.perm {p : HProp} {own : List HProp} {f : HProp → List HProp} (h : UpA p own f) : ∃ r, own.Perm (p :: r) ∧ ∀ x, (x :: r).Perm (f x) := by
  induction h with
  | @here r => exact ⟨r, .refl _, fun _ => .refl _⟩
  | @there q _ _ _ ih =>
    obtain ⟨r, h1, h2⟩ := ih
    exact ⟨q :: r, (h1.cons _).trans (.swap _ _ _), fun x => (List.Perm.swap _ _ _).trans ((h2 x).cons _)⟩
/-- A function value is called that says yes or no, and has something else besides. -/
theorem OpOk.callY {fx : Operand} {fv : Value} {vs : List Value} {xs : List Operand} {ats : Array TypeId} {p : HProp} {p1 p2 : Img → HProp} {Own B : List HProp} {f : HProp → List HProp}
    (hf : ev e fx = some fv) (hx : evs e xs = some vs) (hc : Cv c.P fv vs (p :: Own) g (fun v own' g2 => (v = .bool true ∧ own' = p1 g2 :: Own) ∨ (v = .bool false ∧ own' = p2 g2 :: Own))) [hu : UpA p own f] (hp : Pick own (p :: Own) B)
    (h1 : ∀ g2, Le g g2 → K (.bool true) (f (p1 g2)) g2) (h2 : ∀ g2, Le g g2 → K (.bool false) (f (p2 g2)) g2) :
    OpOk c D (.call { callee := .value fx, args := xs.toArray, argTypes := ats }) ty e own g K := by
  obtain ⟨r, hr1, hr2⟩ := hu.perm
  have hrB : (Own ++ B).Perm r := ((hp.perm.symm.trans hr1)).cons_inv
  refine OpOk.post (K' := fun v o1 g' => Le g g' ∧ ((v = .bool true ∧ o1 = p1 g' :: (Own ++ B)) ∨ (v = .bool false ∧ o1 = p2 g' :: (Own ++ B)))) (.callCv (A := p :: Own) (B := B) hf hx hc hp.perm ?_) ?_
  · rintro v own' g2 hle (⟨rfl, rfl⟩ | ⟨rfl, rfl⟩)
    · exact ⟨hle, .inl ⟨rfl, rfl⟩⟩
    · exact ⟨hle, .inr ⟨rfl, rfl⟩⟩
  · rintro v o1 g' _ ⟨hle, ⟨rfl, rfl⟩ | ⟨rfl, rfl⟩⟩
    · exact ⟨_, h1 g' hle, (hrB.cons _).trans (hr2 _)⟩
    · exact ⟨_, h2 g' hle, (hrB.cons _).trans (hr2 _)⟩
theorem R.lenT {T sz n cap : Nat} {a : Option Addr} {es : List (List Value)} {r : List HProp} (ht : Take (sl T sz a n cap es) own r) (h : n = es.length → (∀ x ∈ es, x.length = sz) → R c k D e own g) : R c k D e own g :=
  fun hle tmps w hf hh => h ((hh.perm ht.perm).openSl.1) ((hh.perm ht.perm).openSl.2.1) hle tmps w hf hh

section
variable {lk : List (Nat × List HProp)} {l : List Oper} {fl : List (Nat × Obj)} {rest : List RStep} {i d T t b' off j s : Nat} {pos : String} {aft : Array Edge} {x : Operand} {cs vs : List Value} {r : List HProp} {v : Value} {b : Bool}
theorem RD.look {KT E : Nat} {dd : TypeDesc} {f : Value → Option Value} {m : Operand} {q u z : Value} [hT : TD c.P T (.map KT E)] (ho : l[i]? = some ⟨some d, .lookup T m x false, ty, pos, aft, none⟩) (hdN : Nat.blt d c.N = true) (hm : ev e m = some (.map (some b'))) (hq : ev e x = some q)
    [ht : TkM b' own dd f r] [hD : TD c.P KT dd] [hk : KeyD dd q] [hz : ZV c.P E z] (hv : (f q).getD z = u)
    (h : RD c l fl rest ((i, [mp dd b' f]) :: lk) k D ((d, u) :: e) own g) : RD c l fl (⟨i, 1, []⟩ :: rest) lk k D e own g := .q1 ho hdN ht.take (.lookupE hm hq hv) rfl h
theorem RD.lookOk {KT E : Nat} {dd : TypeDesc} {f : Value → Option Value} {m : Operand} {q u z : Value} {ok : Bool} [hT : TD c.P T (.map KT E)] (ho : l[i]? = some ⟨some d, .lookup T m x true, ty, pos, aft, none⟩) (hdN : Nat.blt d c.N = true) (hm : ev e m = some (.map (some b'))) (hq : ev e x = some q)
    [ht : TkM b' own dd f r] [hD : TD c.P KT dd] [hk : KeyD dd q] [hz : ZV c.P E z] (hv : (f q).getD z = u) (hok : (f q).isSome = ok)
    (h : RD c l fl rest ((i, [mp dd b' f]) :: lk) k D ((d, .tuple [u, .bool ok].toArray) :: e) own g) : RD c l fl (⟨i, 1, []⟩ :: rest) lk k D e own g := .q1 ho hdN ht.take (.lookupOkE hm hq hv hok) rfl h
theorem RD.ldL [hT : TA c.P t false] (ho : l[i]? = some ⟨some d, .load t x, ty, pos, aft, none⟩) (hdN : Nat.blt d c.N = true) (hx : ev e x = some (.pointer (some ⟨b', off, none⟩))) [ht : Tk b' own T cs r] (hm : Look cs off [v])
    (h : RD c l fl rest ((i, [cel b' T cs]) :: lk) k D ((d, v) :: e) own g) : RD c l fl (⟨i, 1, []⟩ :: rest) lk k D e own g := .q1 ho hdN ht.take (.ldL hx hm) rfl h
theorem RD.ldLW [hT : TA c.P t false] (ho : l[i]? = some ⟨some d, .load t x, ty, pos, aft, none⟩) (hdN : Nat.blt d c.N = true) (hx : ev e x = some (.pointer (some ⟨b', off + j, none⟩))) [ht : Tk b' own T cs r] (hm : Look cs off vs) [hw : Win vs j 1 [v]]
    (h : RD c l fl rest ((i, [cel b' T cs]) :: lk) k D ((d, v) :: e) own g) : RD c l fl (⟨i, 1, []⟩ :: rest) lk k D e own g := .q1 ho hdN ht.take (.ldLW hx hm) rfl h
theorem RD.gldL [hT : TA c.P t false] (ho : l[i]? = some ⟨some d, .load t x, ty, pos, aft, some (j, b)⟩) (hj : (l[j]?).bind (·.dst) = some s) (hs : find e s = some (.bool b)) (hdN : Nat.blt d c.N = true) (hx : ev e x = some (.pointer (some ⟨b', off, none⟩))) [ht : Tk b' own T cs r] (hm : Look cs off [v])
    (h : RD c l fl rest ((i, [cel b' T cs]) :: lk) k D ((d, v) :: e) own g) : RD c l fl (⟨i, 1, []⟩ :: rest) lk k D e own g := .gq1 ho hj hs hdN ht.take (.ldL hx hm) rfl h
theorem RD.gldLW {q : Nat} [hT : TA c.P t false] (ho : l[i]? = some ⟨some d, .load t x, ty, pos, aft, some (j, b)⟩) (hj : (l[j]?).bind (·.dst) = some s) (hs : find e s = some (.bool b)) (hdN : Nat.blt d c.N = true) (hx : ev e x = some (.pointer (some ⟨b', off + q, none⟩))) [ht : Tk b' own T cs r] (hm : Look cs off vs) [hw : Win vs q 1 [v]]
    (h : RD c l fl rest ((i, [cel b' T cs]) :: lk) k D ((d, v) :: e) own g) : RD c l fl (⟨i, 1, []⟩ :: rest) lk k D e own g := .gq1 ho hj hs hdN ht.take (.ldLW hx hm) rfl h
end
theorem R.openSlT {T sz n cap : Nat} {a : Option Addr} {es : List (List Value)} {r : List HProp} (ht : Take (sl T sz a n cap es) own r) (hn : 0 < n)
    (h : ∀ b sp, a = some ⟨b, 0, none⟩ → n = es.length → (∀ x ∈ es, x.length = sz) → n ≤ cap → cap ≤ maxLen → sp.length = (cap - n) * sz → R c k D e (cel b T (es.flatten ++ sp) :: r) g) : R c k D e own g :=
  R.perm ht.perm (R.openSl (fun _ h0 _ _ => absurd h0 (by omega)) h)

/-- The end of a function without results that bears a mark. -/
theorem R.endM {P : Program} {f : FuncId} {fn : Func} {N r0 : Nat} {F : Frag} {g0 : Img} {Post : Value → List HProp → Img → Prop} {A B : List HProp}
    (hf : P.funcs[f]? = some fn) (hr : fn.results = #[]) (hp : Pick own (mk r0 :: A) B) (hP : Le g0 g → Post (packed []) A g) :
    R (fnCx P f N F g0 Post) [] [mark r0] e own g := by
  intro hle tmps w hfit hh cs
  have hh1 := hh.pick hp
  have hk := run_takeDeferred (P := P) hh1.blk
  have hh2 := (hh1.set (w' := w.putObj r0 (.deferred none)) (o' := .deferred none) rfl).drop
  refine ⟨{ (fnCx P f N F g0 Post).fr tmps [] [mark r0] with mode := .returning, defers := [] ++ [] }, w.putObj r0 (.deferred none), ⟨packed [], A, g, hle, hP hle, hh2, rfl, rfl, rfl, rfl, fn, hf, ?_⟩,
    .head (stepR_end rfl) (.one (step_collected (fr := { (fnCx P f N F g0 Post).fr tmps [] [mark r0] with mode := .returning }) (by simp) rfl rfl hk))⟩
  show (results fn tmps).run P _ = .ok (packed []) _
  rw [results_eq, hr]
  simp [packed]
/-- Branches that meet. -/
theorem R.cut {it : Item} {a b : Code} (P : List (Nat × Value) → List HProp → Img → Prop) (tail : ∀ e own g, P e own g → R c (.code a :: .code b :: k) D e own g)
    (h : (∀ e own g, P e own g → R c (.code a :: .code b :: k) D e own g) → R c (it :: .code (a.seq b) :: k) D e own g) : R c (it :: .code (a.seq b) :: k) D e own g := h tail

/-- An iterator that has something of its own besides: it is given up. -/
def IterP (P : Program) (f : Nat) (cl : List Value) (Own Priv : List HProp) (g0 : Img) {α : Type} (enc : α → Img → List Value → Prop) (all : List α) : Prop :=
  ∀ (yf : Go.Fn) (ya yc : Array Value) (J : List α → Img → HProp) (Jx : Img → HProp) (g : Img), Le g0 g →
    (∀ pre x post g1 vs, all = pre ++ x :: post → Le g g1 → enc x g1 vs → Cv P (.func yf ya yc) vs (J pre g1 :: Own) g1 (fun v own' g2 => (v = .bool true ∧ own' = J (pre ++ [x]) g2 :: Own) ∨ (v = .bool false ∧ own' = Jx g2 :: Own))) →
    (∀ pre g1 g2, Le g1 g2 → ∀ fr, J pre g1 fr → J pre g2 fr) → (∀ g1 g2, Le g1 g2 → ∀ fr, Jx g1 fr → Jx g2 fr) →
    ∀ F, Fc P f (.func yf ya yc :: cl).toArray (J [] g :: (Own ++ Priv)) F g (fun _ own' g' => own' = J all g' :: Own ∨ own' = Jx g' :: Own)
theorem R.rangeIterP {fx : Operand} {ts : List Nat} {ps : Array Tmp} {assign body : Code} {f : Nat} [hF : CF c.P f] {cl : List Value} {α : Type} {enc : α → Img → List Value → Prop} {all : List α} {Own Priv B : List HProp}
    (J : List α → Img → HProp) (X : Code → Img → HProp) (hro : c.ro = none) (hf : ev e fx = some (.func (.func f) #[] cl.toArray)) (hit : IterP c.P f cl Own Priv g enc all) (hts : ps = ts.toArray)
    (hps : ∀ x g1 vs, enc x g1 vs → vs.length = ts.length) (hN : (ts.all fun t => Nat.blt t c.N) = true)
    (hJ : ∀ pre g1 g2, Le g1 g2 → ∀ fr, J pre g1 fr → J pre g2 fr) (hX : ∀ code g1 g2, Le g1 g2 → ∀ fr, X code g1 fr → X code g2 fr)
    (hp : own.Perm (J [] g :: ((Own ++ Priv) ++ B)))
    (hbody : ∀ pre x post g1 vs, all = pre ++ x :: post → Le g g1 → enc x g1 vs → ∀ l r F, R (rndCx c.P c.fn l c.N F g1 (rndPost l r J X (pre ++ [x]) Own)) [.code assign, .beginRound, .code body] [] (putL ts vs e) (lp l r .ready none :: J pre g1 :: Own) g1)
    (hdone : ∀ r0 g', Le g g' → R c k (mark r0 :: D) e (mk r0 :: J all g' :: (Own ++ B)) g')
    (hjump : ∀ r0 code g', Le g g' → R c (.code code :: k) (mark r0 :: D) e (mk r0 :: X code g' :: (Own ++ B)) g') :
    R c (.code (.rangeFunc fx ps assign body) :: k) D e own g := by
  refine R.rangeFunc (A := J [] g :: (Own ++ Priv)) (B := B) (Own := Own) (Q := fun j L g' => (j = none ∧ L = [J all g']) ∨ ∃ code, j = some code ∧ L = [X code g']) hro hf (by simpa using hp) ?_ ?_
  · intro l r0 r hfn hfit hpar hasg hbd F
    have key := hit (.yield l) #[] #[] (fun pre g1 => star [lp l r .ready none, mk r0, J pre g1]) (fun g1 fr => ∃ code, Sat [lp l r .done (some code), mk r0, X code g1] fr) g (Le.refl g) ?_ ?_ ?_ F
    · refine (Fc.toStar (L := [lp l r .ready none, mk r0, J [] g]) key).post ?_
      rintro v own' g' hle (rfl | rfl)
      · exact ⟨_, rfl, fun F w hh => hh.weak fun fr hs => ⟨none, .ready, _, by simp, .inl ⟨rfl, rfl⟩, hs⟩⟩
      · exact ⟨_, rfl, fun F w hh => hh.weak fun fr ⟨code, hs⟩ => ⟨some code, .done, _, by simp, .inr ⟨code, rfl, rfl⟩, hs⟩⟩
    · intro pre x post g1 vs hall hle henc
      refine Cv.unstar (Cv.perm (own' := lp l r .ready none :: (J pre g1 :: Own ++ [mk r0])) ?_ (Cv.frame (B := [mk r0]) (Cv.yield (l := l) (N := c.N) (r := r) (ts := ts) (e := e) (pe := none) (Post := rndPost l r J X (pre ++ [x]) Own) hfit (hpar.trans hts) (hps x g1 vs henc) hN ?_) ?_))
      · simp only [List.cons_append, List.nil_append]
        exact List.Perm.cons _ ((List.perm_append_comm (l₁ := [mk r0]) (l₂ := J pre g1 :: Own)))
      · intro F
        have := hbody pre x post g1 vs hall hle henc l r F
        rw [hfn, hasg, hbd]
        exact this
      · rintro v own' g2 _ (⟨rfl, rfl⟩ | ⟨code, rfl, rfl⟩)
        · refine ⟨_, .inl ⟨rfl, rfl⟩, fun F w hh => Holds.toStar (L := [lp l r .ready none, mk r0, J (pre ++ [x]) g2]) (hh.perm ?_)⟩
          simp only [List.cons_append, List.nil_append]
          exact List.Perm.cons _ ((List.perm_append_comm (l₁ := J (pre ++ [x]) g2 :: Own) (l₂ := [mk r0])))
        · refine ⟨_, .inr ⟨rfl, rfl⟩, fun F w hh => Holds.weak (p := star [lp l r .done (some code), mk r0, X code g2]) (fun fr hs => ⟨code, hs⟩) (Holds.toStar (L := [lp l r .done (some code), mk r0, X code g2]) (hh.perm ?_))⟩
          simp only [List.cons_append, List.nil_append]
          exact List.Perm.cons _ ((List.perm_append_comm (l₁ := X code g2 :: Own) (l₂ := [mk r0])))
    · rintro pre g1 g2 hle fr ⟨f1, f2, rfl, h1, f3, f4, rfl, h2, f5, f6, rfl, h3, h4⟩
      exact ⟨f1, _, rfl, h1, f3, _, rfl, h2, f5, f6, rfl, hJ pre g1 g2 hle _ h3, h4⟩
    · rintro g1 g2 hle fr ⟨code, f1, f2, rfl, h1, f3, f4, rfl, h2, f5, f6, rfl, h3, h4⟩
      exact ⟨code, f1, _, rfl, h1, f3, _, rfl, h2, f5, f6, rfl, hX code g1 g2 hle _ h3, h4⟩
  · rintro j L g' r0 hle (⟨rfl, rfl⟩ | ⟨code, rfl, rfl⟩)
    · exact hdone r0 g' hle
    · exact hjump r0 code g' hle

end Go.Zed
