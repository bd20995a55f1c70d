/- Slices: of what lies still, and of a function's own. -/
import Derived.Test.YtemgdeknjnlifaaZedD
import Derived.Laws.MakeOwn
namespace Go.Zed
open Go

variable {c : Cx} {k k' : List Item} {D D' : List Deferred} {e e' : List (Nat × Value)} {own own' : List HProp} {g g' : Img} {ty : TypeId} {K : Value → List HProp → Img → Prop}

/-! ### Reading at a place that is known by a hypothesis -/
def Look (cs : List Value) (off : Nat) (vs : List Value) : Prop := ∀ j v, vs[j]? = some v → cs[off + j]? = some v
theorem Look.reads {b T off : Nat} {cs vs : List Value} {r : List HProp} (ht : Take (cel b T cs) own r) (h : Look cs off vs) : Reads own g b off vs := by
  intro F w hh j v hv
  have := (hh.perm ht.perm).blk
  rw [add0]
  simp [World.cell?, this, h j v hv]
theorem Look.sub {cs vs us : List Value} {off j n : Nat} (h : Look cs off vs) (hw : Win vs j n us) : Look cs (off + j) us := by
  intro i v hv
  have := h _ _ (hw.get.2 i v hv)
  rwa [← Nat.add_assoc] at this
theorem Mem.sub {b off j n : Nat} {vs us : List Value} (h : Mem g b off vs) (hw : Win vs j n us) : Mem g b (off + j) us := by
  obtain ⟨cs, T, fr, hg, hc⟩ := h
  refine ⟨cs, T, fr, hg, fun i v hv => ?_⟩
  have := hc _ _ (hw.get.2 i v hv)
  rwa [← Nat.add_assoc] at this
theorem look_flat {sz : Nat} : ∀ {es : List (List Value)} {i : Nat} {x sp : List Value}, (∀ y ∈ es, y.length = sz) → es[i]? = some x → Look (es.flatten ++ sp) (0 + i * sz) x
  | [], i, x, sp, _, h => by simp at h
  | y :: es, 0, x, sp, hl, h => by
    intro j v hv
    have hx : y = x := by simpa using h
    subst hx
    simp only [Nat.zero_mul, Nat.zero_add, List.flatten_cons, List.append_assoc]
    rw [List.getElem?_append_left (List.getElem?_eq_some_iff.1 hv).1]; exact hv
  | y :: es, i + 1, x, sp, hl, h => by
    intro j v hv
    have ih := look_flat (sp := sp) (fun z hz => hl z (List.mem_cons_of_mem _ hz)) (by simpa using h) j v hv
    have hy := hl y (List.mem_cons_self ..)
    rw [List.flatten_cons, List.append_assoc, List.getElem?_append_right (by rw [hy, Nat.succ_mul]; omega)]
    rw [show 0 + (i + 1) * sz + j - y.length = 0 + i * sz + j by rw [hy, Nat.succ_mul]; omega]
    exact ih

section
variable {ops : Array Oper} {l : List Oper} {d t b off T : Nat} {ty : TypeId} {pos : String} {aft : Array Edge} {rest : List Oper} {x : Operand} {cs vs us : List Value} {r : List HProp} {v : Value} {j s : Nat} {gb : Bool}
theorem QOk.ldM {P : Program} [hT : TA P t false] (hx : ev e x = some (.pointer (some ⟨b, off, none⟩))) (hm : Mem g b off [v]) : QOk P (.load t x) ty e [] g v := .loadMem0 hx hm
theorem QOk.ldMA {P : Program} {sz by_ : Nat} {zl : List Value} [hT : TA P t true] [hS : TY P t sz by_ zl] (hx : ev e x = some (.pointer (some ⟨b, off, none⟩))) (hm : Mem g b off vs) (hn : vs.length = sz) :
    QOk P (.load t x) ty e [] g (.agg vs.toArray) := .loadMemA hx hm hn
theorem QOk.ldMW {P : Program} [hT : TA P t false] (hx : ev e x = some (.pointer (some ⟨b, off + j, none⟩))) (hm : Mem g b off vs) [hw : Win vs j 1 [v]] : QOk P (.load t x) ty e [] g v := .loadMem0 hx (hm.sub hw)
theorem QOk.ldMWA {P : Program} {sz by_ : Nat} {zl : List Value} [hT : TA P t true] [hS : TY P t sz by_ zl] (hx : ev e x = some (.pointer (some ⟨b, off + j, none⟩))) (hm : Mem g b off vs) [hw : Win vs j sz us] : QOk P (.load t x) ty e [] g (.agg us.toArray) :=
  .loadMemA hx (hm.sub hw) hw.get.1
theorem QOk.ldL {P : Program} [hT : TA P t false] (hx : ev e x = some (.pointer (some ⟨b, off, none⟩))) (hm : Look cs off [v]) : QOk P (.load t x) ty e [cel b T cs] g v := .load hx (hm.reads .here)
theorem QOk.ldLA {P : Program} {sz by_ : Nat} {zl : List Value} [hT : TA P t true] [hS : TY P t sz by_ zl] (hx : ev e x = some (.pointer (some ⟨b, off, none⟩))) (hm : Look cs off vs) (hn : vs.length = sz) :
    QOk P (.load t x) ty e [cel b T cs] g (.agg vs.toArray) := .loadA hx (hm.reads .here) hn
theorem QOk.ldLW {P : Program} [hT : TA P t false] (hx : ev e x = some (.pointer (some ⟨b, off + j, none⟩))) (hm : Look cs off vs) [hw : Win vs j 1 [v]] : QOk P (.load t x) ty e [cel b T cs] g v := .load hx ((hm.sub hw).reads .here)
theorem RO.ldL [hT : TA c.P t false] (hd : Nat.blt d c.N = true) (hx : ev e x = some (.pointer (some ⟨b, off, none⟩))) [ht : Tk b own T cs r] (hm : Look cs off [v]) (h : RO c ops rest k D ((d, v) :: e) own g) :
    RO c ops (⟨some d, .load t x, ty, pos, aft, none⟩ :: rest) k D e own g := .q1 hd ht.take (.ldL hx hm) rfl h
theorem RO.ldLA {sz by_ : Nat} {zl : List Value} [hT : TA c.P t true] [hS : TY c.P t sz by_ zl] (hd : Nat.blt d c.N = true) (hx : ev e x = some (.pointer (some ⟨b, off, none⟩))) [ht : Tk b own T cs r] (hm : Look cs off vs) (hn : vs.length = sz) (h : RO c ops rest k D ((d, .agg vs.toArray) :: e) own g) :
    RO c ops (⟨some d, .load t x, ty, pos, aft, none⟩ :: rest) k D e own g := .q1 hd ht.take (.ldLA hx hm hn) rfl h
theorem RO.ldLW [hT : TA c.P t false] (hd : Nat.blt d c.N = true) (hx : ev e x = some (.pointer (some ⟨b, off + j, none⟩))) [ht : Tk b own T cs r] (hm : Look cs off vs) [hw : Win vs j 1 [v]] (h : RO c ops rest k D ((d, v) :: e) own g) :
    RO c ops (⟨some d, .load t x, ty, pos, aft, none⟩ :: rest) k D e own g := .q1 hd ht.take (.ldLW hx hm) rfl h
end

/-! ### A slice of what lies still -/
structure Sl (g : Img) (sz : Nat) (a : Option Addr) (n : Nat) (es : List (List Value)) : Prop where
  len : n = es.length
  el : ∀ x ∈ es, x.length = sz
  at_ : ∀ i x, es[i]? = some x → ∃ b off, a = some ⟨b, off, none⟩ ∧ Mem g b (off + i * sz) x
theorem Sl.mono {sz n : Nat} {a : Option Addr} {es : List (List Value)} (h : Sl g sz a n es) (hl : Le g g') : Sl g' sz a n es :=
  ⟨h.len, h.el, fun i x hx => by obtain ⟨b, off, ha, hm⟩ := h.at_ i x hx; exact ⟨b, off, ha, hm.mono hl⟩⟩
theorem Sl.nil {sz : Nat} {a : Option Addr} : Sl g sz a 0 [] := ⟨rfl, by simp, by simp⟩

/-! ### A slice of one's own -/
def sl (T sz : Nat) (a : Option Addr) (n cap : Nat) (es : List (List Value)) : HProp := fun fr =>
  n = es.length ∧ (∀ x ∈ es, x.length = sz) ∧ ((a = none ∧ n = 0 ∧ cap = 0 ∧ fr = []) ∨
    ∃ b sp, a = some ⟨b, 0, none⟩ ∧ n ≤ cap ∧ cap ≤ maxLen ∧ sp.length = (cap - n) * sz ∧ fr = [(b, .cells (es.flatten ++ sp).toArray T (0, 0))])
theorem flat_len {sz : Nat} : ∀ {es : List (List Value)}, (∀ x ∈ es, x.length = sz) → es.flatten.length = es.length * sz
  | [], _ => by simp
  | y :: es, h => by
    rw [List.flatten_cons, List.length_append, flat_len (fun z hz => h z (List.mem_cons_of_mem _ hz)), h y (List.mem_cons_self ..), List.length_cons, Nat.succ_mul, Nat.add_comm]

theorem Holds.nilSl {T sz : Nat} {F : Frag} {w : World} (h : Holds own F g w) : Holds (sl T sz none 0 0 [] :: own) F g w := by
  obtain ⟨fr, hs, hg⟩ := h
  exact ⟨fr, ⟨[], fr, rfl, ⟨rfl, by simp, .inl ⟨rfl, rfl, rfl, rfl⟩⟩, hs⟩, hg⟩
theorem Holds.closeSl {T sz b n cap : Nat} {es : List (List Value)} {sp : List Value} {F : Frag} {w : World} (h : Holds (cel b T (es.flatten ++ sp) :: own) F g w) (hn : n = es.length) (hl : ∀ x ∈ es, x.length = sz)
    (hc : n ≤ cap) (hm : cap ≤ maxLen) (hsp : sp.length = (cap - n) * sz) : Holds (sl T sz (some ⟨b, 0, none⟩) n cap es :: own) F g w := by
  obtain ⟨fr, ⟨f1, f2, rfl, rfl, hs⟩, hg⟩ := h
  exact ⟨_, ⟨_, f2, rfl, ⟨hn, hl, .inr ⟨b, sp, rfl, hc, hm, hsp, rfl⟩⟩, hs⟩, hg⟩
theorem Holds.openSl {T sz n cap : Nat} {a : Option Addr} {es : List (List Value)} {F : Frag} {w : World} (h : Holds (sl T sz a n cap es :: own) F g w) :
    n = es.length ∧ (∀ x ∈ es, x.length = sz) ∧ ((a = none ∧ n = 0 ∧ cap = 0 ∧ Holds own F g w) ∨
      ∃ b sp, a = some ⟨b, 0, none⟩ ∧ n ≤ cap ∧ cap ≤ maxLen ∧ sp.length = (cap - n) * sz ∧ Holds (cel b T (es.flatten ++ sp) :: own) F g w) := by
  obtain ⟨fr, ⟨f1, f2, rfl, ⟨hn, hl, hs1⟩, hs⟩, hg⟩ := h
  refine ⟨hn, hl, ?_⟩
  rcases hs1 with ⟨ha, h0, hc, rfl⟩ | ⟨b, sp, ha, hc, hm, hsp, rfl⟩
  · exact .inl ⟨ha, h0, hc, ⟨f2, hs, by simpa using hg⟩⟩
  · exact .inr ⟨b, sp, ha, hc, hm, hsp, ⟨_, ⟨_, f2, rfl, rfl, hs⟩, hg⟩⟩

theorem R.openSl {T sz n cap : Nat} {a : Option Addr} {es : List (List Value)} (h0 : a = none → n = 0 → cap = 0 → es = [] → R c k D e own g)
    (h1 : ∀ b sp, a = some ⟨b, 0, none⟩ → n = es.length → (∀ x ∈ es, x.length = sz) → n ≤ cap → cap ≤ maxLen → sp.length = (cap - n) * sz → R c k D e (cel b T (es.flatten ++ sp) :: own) g) :
    R c k D e (sl T sz a n cap es :: own) g := by
  intro hle tmps w hf hh
  obtain ⟨hn, hl, ⟨ha, h0', hc, hh'⟩ | ⟨b, sp, ha, hc, hm, hsp, hh'⟩⟩ := hh.openSl
  · exact h0 ha h0' hc (List.eq_nil_of_length_eq_zero (by omega)) hle tmps w hf hh'
  · exact h1 b sp ha hn hl hc hm hsp hle tmps w hf hh'
theorem R.closeSl {T sz b n cap : Nat} {es : List (List Value)} {sp : List Value} (hn : n = es.length) (hl : ∀ x ∈ es, x.length = sz) (hc : n ≤ cap) (hm : cap ≤ maxLen) (hsp : sp.length = (cap - n) * sz)
    (h : R c k D e (sl T sz (some ⟨b, 0, none⟩) n cap es :: own) g) : R c k D e (cel b T (es.flatten ++ sp) :: own) g :=
  fun hle tmps w hf hh => h hle tmps w hf (hh.closeSl hn hl hc hm hsp)
theorem R.nilSl (T sz : Nat) (h : R c k D e (sl T sz none 0 0 [] :: own) g) : R c k D e own g :=
  fun hle tmps w hf hh => h hle tmps w hf hh.nilSl
theorem R.freezeSl {T sz n cap : Nat} {a : Option Addr} {es : List (List Value)} (h : ∀ g', Le g g' → Sl g' sz a n es → R c k D e own g') : R c k D e (sl T sz a n cap es :: own) g := by
  refine .openSl (fun ha hn hc he => ?_) (fun b sp ha hn hl hc hm hsp => .freeze fun g' hle hg' => ?_)
  · subst he; subst hn; exact h g (Le.refl g) .nil
  · refine h g' hle ⟨hn, hl, fun i x hx => ⟨b, 0, ha, _, T, _, hg', fun j v hv => ?_⟩⟩
    have := look_flat (sp := sp) hl hx j v hv
    simpa using this

class inductive TkS (a : Option Addr) : List HProp → outParam Nat → outParam Nat → outParam Nat → outParam Nat → outParam (List (List Value)) → outParam (List HProp) → Prop
  | there {q : HProp} {own r : List HProp} {T sz n cap : Nat} {es : List (List Value)} (h : TkS a own T sz n cap es r) : TkS a (q :: own) T sz n cap es (q :: r)
  | here {T sz n cap : Nat} {es : List (List Value)} {r : List HProp} : TkS a (sl T sz a n cap es :: r) T sz n cap es r
instance {a : Option Addr} {q : HProp} {own r : List HProp} {T sz n cap : Nat} {es : List (List Value)} [h : TkS a own T sz n cap es r] : TkS a (q :: own) T sz n cap es (q :: r) := .there h
instance {a : Option Addr} {T sz n cap : Nat} {es : List (List Value)} {r : List HProp} : TkS a (sl T sz a n cap es :: r) T sz n cap es r := .here
theorem TkS.take {a : Option Addr} {T sz n cap : Nat} {own r : List HProp} {es : List (List Value)} (h : TkS a own T sz n cap es r) : Take (sl T sz a n cap es) own r := by
  induction h with
  | here => exact .here
  | there _ ih => exact .there ih

theorem Holds.swap {p q : HProp} {F : Frag} {w : World} (h : Holds (p :: q :: own) F g w) : Holds (q :: p :: own) F g w := h.perm (.swap _ _ _)

/-- One more element: the row that brings it is given up. -/
theorem OpOk.append1 {x y : Operand} {t T sz by_ n cap b2 T2 c2 : Nat} {zl l2 : List Value} {a : Option Addr} {es : List (List Value)} {r r2 : List HProp} [hT : TD c.P t (.slice T)] [hS : TY c.P T sz by_ zl]
    (hx : ev e x = some (.slice a n cap)) (hy : ev e y = some (.slice (some ⟨b2, 0, none⟩) 1 c2)) [hs : TkS a own T sz n cap es r] [ht : Tk b2 r T2 l2 r2] [hl : Len l2 sz]
    (h1 : (l2.all Value.oneCell') = true) (hsz : Nat.blt 0 sz = true) (hB : (n + 1) * by_ ≤ 140737488355328) (hm : n + 1 ≤ maxLen)
    (hK : ∀ a' cap', K (.slice a' (n + 1) cap') (sl T sz a' (n + 1) cap' (es ++ [l2]) :: r2) g) : OpOk c D (.call { callee := .builtin .append, args := #[x, y], argTypes := #[t, t] }) ty e own g K := by
  refine .of_run (by simp) fun hle F tmps w hf hh => ?_
  obtain ⟨i, z, hi, hisz, hiby, hz, hzl, hzs⟩ := hS.ex
  have ht' := hT.eq
  have hl2 := hl.eq
  have hh1 := (hh.perm hs.take.perm).perm (ht.take.perm.cons _)
  obtain ⟨hn, hel, hcase⟩ := hh1.openSl
  have hel' : ∀ x ∈ es ++ [l2], x.length = sz := by
    intro x hx; rcases List.mem_append.1 hx with h | h
    · exact hel x h
    · simp at h; subst h; exact hl2
  have hzs : z.cells.size = sz := by rw [hzl]; simpa using hzs
  have hnews : l2.length = 1 * i.size := by rw [hisz]; omega
  have hone : ∀ u ∈ l2, u.oneCell' = true := List.all_eq_true.1 h1
  have hrun : ∀ (v' : Value) (w' : World), (Builtin.append_ #[t, t] ty #[.slice a n cap, .slice (some ⟨b2, 0, none⟩) 1 c2]).run c.P w = .ok v' w' →
      ∀ o : Oper, o.op = .call { callee := .builtin .append, args := #[x, y], argTypes := #[t, t] } → o.type = ty → (execOp (Act.eval ⟨tmps, D⟩) o).run c.P w = .ok (.value v') w' := by
    intro v' w' hr o ho hty
    simp [execOp, ho, hty, resolve, invoke, builtin, hf.ev (by simp [Op.operands, Call.operands]) hx, hf.ev (by simp [Op.operands, Call.operands]) hy, hr]
  rcases hcase with ⟨rfl, rfl, rfl, hh2⟩ | ⟨b, sp, rfl, hnc, hcm, hsp, hh2⟩
  · have hc : ∀ j u, l2[j]? = some u → w.cell? ((⟨b2, 0, none⟩ : Addr).add j) = some u := by
      intro j u hu; have := hh2.blk; rw [add0]; simp [World.cell?, this, hu]
    have hr := run_append_nil (P := c.P) w t ty T i z ht' hi hz ⟨b2, 0, none⟩ 1 c2 l2 hnews hc (by omega) (by omega) (by rw [hiby]; omega)
    have he : es = [] := List.eq_nil_of_length_eq_zero hn.symm
    subst he
    have hge := grownCap_ge w 1 0 T
    have hcl := grownCap_le_maxLen w 1 0 T (by simp [maxLen])
    refine ⟨_, _, g, _, Le.refl g, hK _ _, ?_, fun o ho hty => .inl (hrun _ _ hr o ho hty)⟩
    have e1 : (.cells (l2.toArray ++ Builtin.zeroCells z.cells (grownCap w 1 0 T - 1)) T (0, 0) : Obj) = .cells (([] ++ [l2] : List (List Value)).flatten ++ (Builtin.zeroCells z.cells (grownCap w 1 0 T - 1)).toList).toArray T (0, 0) := by
      congr 1; simp
    have hal := (hh2.alloc (w' := w.drew.alloc (.cells (l2.toArray ++ Builtin.zeroCells z.cells (grownCap w 1 0 T - 1)) T)) (by exact congrArg w.heap.push e1)).swap.drop
    exact hal.closeSl (by simp) hel' hge hcl (by simp only [Array.length_toList, size_zeroCells, hzs])
  · have hc : ∀ j u, l2[j]? = some u → w.cell? ((⟨b2, 0, none⟩ : Addr).add j) = some u := by
      intro j u hu; have := hh2.swap.blk; rw [add0]; simp [World.cell?, this, hu]
    have hfl := flat_len hel
    by_cases hroom : n + 1 ≤ cap
    · have hfit : n * i.size + l2.length ≤ (es.flatten ++ sp).toArray.size := by
        simp only [List.size_toArray, List.length_append, hfl, hsp, ← hn, hisz, hl2]
        have : (cap - n) * sz ≥ 1 * sz := Nat.mul_le_mul_right _ (by omega)
        omega
      have hr := run_append_room (P := c.P) w t ty T i ht' hi b n cap _ hh2.blk ⟨b2, 0, none⟩ 1 c2 l2 hnews hc hone hroom hfit
      refine ⟨_, _, g, _, Le.refl g, hK _ _, ?_, fun o ho hty => .inl (hrun _ _ hr o ho hty)⟩
      have hset := hh2.set (w' := w.setRow b _) (setRow_heap_eq (cs := ((es.flatten ++ sp).take (n * i.size) ++ l2 ++ (es.flatten ++ sp).drop (n * i.size + l2.length)).toArray) hh2.blk)
      have e1 : (es.flatten ++ sp).take (n * i.size) ++ l2 ++ (es.flatten ++ sp).drop (n * i.size + l2.length) = (es ++ [l2]).flatten ++ sp.drop sz := by
        have : es.flatten.length = n * i.size := by rw [hfl, hisz, hn]
        rw [← this, List.take_left, hl2, List.drop_append]
        simp
      rw [e1] at hset
      have := hset.swap.drop
      simp only [List.toList_toArray, e1]
      exact this.closeSl (by simp [hn]) hel' hroom hcm (by rw [List.length_drop, hsp, ← Nat.sub_sub, Nat.sub_mul (cap - n) 1, Nat.one_mul])
    · have holds : ∀ j u, es.flatten[j]? = some u → w.cell? ((⟨b, 0, none⟩ : Addr).add j) = some u := by
        intro j u hu
        have := hh2.blk
        rw [add0]
        have hlt := (List.getElem?_eq_some_iff.1 hu).1
        simp [World.cell?, this, List.getElem?_append_left hlt, hu]
      have hr := run_append_grow (P := c.P) w t ty T i z ht' hi hz ⟨b, 0, none⟩ n cap es.flatten (by rw [hfl, hisz, hn]) holds ⟨b2, 0, none⟩ 1 c2 l2 hnews hc (by omega) (by simp only [maxLen] at hm; omega) (growslice_fits (by omega) (by rw [hiby]; exact hB))
      have hge := grownCap_ge w (n + 1) cap T
      have hcl := grownCap_le_maxLen w (n + 1) cap T hm
      refine ⟨_, _, g, _, Le.refl g, hK _ _, ?_, fun o ho hty => .inl (hrun _ _ hr o ho hty)⟩
      have e1 : (.cells (es.flatten.toArray ++ l2.toArray ++ Builtin.zeroCells z.cells (grownCap w (n + 1) cap T - (n + 1))) T (0, 0) : Obj) = .cells ((es ++ [l2]).flatten ++ (Builtin.zeroCells z.cells (grownCap w (n + 1) cap T - (n + 1))).toList).toArray T (0, 0) := by
        congr 1; simp
      have hal := (hh2.alloc (w' := w.drew.alloc (.cells (es.flatten.toArray ++ l2.toArray ++ Builtin.zeroCells z.cells (grownCap w (n + 1) cap T - (n + 1))) T)) (by exact congrArg w.heap.push e1)).swap.drop.swap.drop
      exact hal.closeSl (by simp [hn]) hel' hge hcl (by simp only [Array.length_toList, size_zeroCells, hzs])

theorem OpOk.make {x y : Operand} {t T sz by_ : Nat} {zl : List Value} {k1 k2 : IntKind} {m : Nat} [hT : TD c.P t (.slice T)] [hS : TY c.P T sz by_ zl]
    (hx : ev e x = some (.int k1 m)) (hy : ev e y = some (.int k2 m)) (hB : by_ * m ≤ 281474976710656) (hm : m ≤ 9223372036854775807)
    (hK : ∀ b, K (.slice (some ⟨b, 0, none⟩) m m) (cel b T ((List.replicate m zl).flatten ++ []) :: own) g) : OpOk c D (.makeSlice t x y) ty e own g K := by
  refine .of_run (by simp) fun hle F tmps w hf hh => ?_
  obtain ⟨i, z, hi, hisz, hiby, hz, hzl, hzs⟩ := hS.ex
  have hr := run_make (P := c.P) w t T i z hT.eq hi hz k1 k2 m m (by omega) (by omega) (by rw [hiby]; omega) (by omega)
  have e1 : madeCells z.cells (m * i.size) = ((List.replicate m zl).flatten ++ []).toArray := by
    rw [hzl, hisz, List.append_nil]
    apply Array.ext_getElem?
    intro j
    unfold madeCells
    by_cases hj : j < m * sz
    · have hfl : (List.replicate m zl).flatten.length = m * sz := by
        rw [flat_len (sz := sz) (by intro x hx; simp [List.mem_replicate] at hx; rw [hx.2, hzs])]; simp
      have hsz : 0 < sz := by
        rcases Nat.eq_zero_or_pos sz with h | h
        · simp [h] at hj
        · exact h
      have hdm : j / sz < m := Nat.div_lt_of_lt_mul (by rw [Nat.mul_comm]; exact hj)
      have hrep : (List.replicate m zl)[j / sz]? = some zl := by simp [List.getElem?_replicate, hdm]
      have hlt : j % sz < zl.length := by rw [hzs]; exact Nat.mod_lt _ hsz
      have := look_flat (sp := []) (sz := sz) (by intro x hx; simp [List.mem_replicate] at hx; rw [hx.2, hzs]) hrep (j % sz) zl[j % sz] (by simp [hlt])
      rw [List.append_nil, show 0 + j / sz * sz + j % sz = j by rw [Nat.zero_add, Nat.mul_comm]; exact Nat.div_add_mod j sz] at this
      simp only [List.getElem?_toArray, this]
      simp only [hzs] at hlt ⊢
      simp [hj, hzs]
      rw [List.getElem?_eq_getElem (by omega)]; rfl
    · have hfl : (List.replicate m zl).flatten.length = m * sz := by
        rw [flat_len (sz := sz) (by intro x hx; simp [List.mem_replicate] at hx; rw [hx.2, hzs])]; simp
      rw [Array.getElem?_eq_none (by simp; omega), Array.getElem?_eq_none (by simp only [List.size_toArray, hfl]; omega)]
  simp only [Int.toNat_natCast, e1] at hr
  refine ⟨_, _, g, _, Le.refl g, hK _, hh.alloc (w' := w.alloc (.cells ((List.replicate m zl).flatten ++ []).toArray T)) rfl, fun o ho _ => .inl ?_⟩
  simp [execOp, ho, hf.ev (by simp [Op.operands, Call.operands]) hx, hf.ev (by simp [Op.operands, Call.operands]) hy, hr]

/-! ### Masks -/
class MK (b : Int) (n : outParam Nat) (m : outParam Int) : Prop where
  mask : b = m - 1
  pow : (2 : Int) ^ n = m
instance : MK 1 1 2 := ⟨rfl, rfl⟩
instance : MK 3 2 4 := ⟨rfl, rfl⟩
instance : MK 7 3 8 := ⟨rfl, rfl⟩
instance : MK 15 4 16 := ⟨rfl, rfl⟩
instance : MK 31 5 32 := ⟨rfl, rfl⟩
instance : MK 63 6 64 := ⟨rfl, rfl⟩
instance : MK 127 7 128 := ⟨rfl, rfl⟩
instance : MK 255 8 256 := ⟨rfl, rfl⟩
instance : MK 511 9 512 := ⟨rfl, rfl⟩
instance : MK 1023 10 1024 := ⟨rfl, rfl⟩
instance : MK 2047 11 2048 := ⟨rfl, rfl⟩
instance : MK 4095 12 4096 := ⟨rfl, rfl⟩
instance : MK 8191 13 8192 := ⟨rfl, rfl⟩
instance : MK 16383 14 16384 := ⟨rfl, rfl⟩
instance : MK 32767 15 32768 := ⟨rfl, rfl⟩
instance : MK 65535 16 65536 := ⟨rfl, rfl⟩
instance : MK 1048575 20 1048576 := ⟨rfl, rfl⟩
instance : MK 16777215 24 16777216 := ⟨rfl, rfl⟩
instance : MK 1073741823 30 1073741824 := ⟨rfl, rfl⟩
instance : MK 2147483647 31 2147483648 := ⟨rfl, rfl⟩
instance : MK 4294967295 32 4294967296 := ⟨rfl, rfl⟩
theorem and_mask {kk : IntKind} {n : Nat} {m a b : Int} [hp : MK b n m] (h0 : 0 ≤ a) (hn : Nat.blt n kk.bits = true) (h1 : a < 9223372036854775808) (hk : kk = .i64 ∨ kk = .u64) :
    kk.wrap (BitVec.ofInt kk.bits a &&& BitVec.ofInt kk.bits b).toNat = a % m := by
  obtain ⟨k, rfl⟩ := Int.eq_ofNat_of_zero_le h0
  have hn' : n < kk.bits := Nat.le_of_ble_eq_true hn
  have hbits : kk.bits = 64 := by rcases hk with rfl | rfl <;> rfl
  have hb : b = ((2 ^ n - 1 : Nat) : Int) := by
    rw [hp.mask, ← hp.pow, Int.ofNat_sub Nat.one_le_two_pow]; simp
  have hm : m = ((2 ^ n : Nat) : Int) := by rw [← hp.pow]; simp
  have hn64 : 2 ^ n ≤ 2 ^ 63 := Nat.pow_le_pow_right (by decide) (by omega)
  rw [hb, hm]
  have h2 : (BitVec.ofInt kk.bits (k : Int) &&& BitVec.ofInt kk.bits ((2 ^ n - 1 : Nat) : Int)).toNat = k % 2 ^ n := by
    rw [BitVec.toNat_and, BitVec.ofInt_natCast, BitVec.ofInt_natCast, BitVec.toNat_ofNat, BitVec.toNat_ofNat, hbits, Nat.mod_eq_of_lt (by omega), Nat.mod_eq_of_lt (by omega), Nat.and_two_pow_sub_one_eq_mod]
  rw [h2]
  have hlt : k % 2 ^ n < 2 ^ n := Nat.mod_lt _ (Nat.two_pow_pos n)
  have h3 : ((k : Int) % ((2 ^ n : Nat) : Int)) = ((k % 2 ^ n : Nat) : Int) := by simp
  rw [h3]
  rcases hk with rfl | rfl
  · rw [IntKind.wrap_i64]; omega
  · exact wu64 (by omega)
theorem QOk.andC {P : Program} {x y : Operand} {t yt : TypeId} {kk : IntKind} {a b m : Int} {n : Nat} (hx : ev e x = some (.int kk a)) (hy : ev e y = some (.int kk b)) [hp : MK b n m] (hk : kk = .i64 ∨ kk = .u64) (hn : Nat.blt n kk.bits = true) (h : 0 ≤ a ∧ a < 9223372036854775808) :
    QOk P (.binOp .and t x y yt) ty e [] g (.int kk (a % m)) := .bits hx hy rfl (and_mask h.1 hn h.2 hk)

/-! ### Leaving, with less -/
theorem R.retK {P : Program} {f : FuncId} {fn : Func} {N : Nat} {F : Frag} {g0 : Img} {Post : Value → List HProp → Img → Prop} {rs : List ResultVar} {vs : List Value} {A B : List HProp}
    (hf : P.funcs[f]? = some fn) (hr : fn.results = rs.toArray) (hres : Res P e own g rs vs) (hp : Pick own A B) (hP : Le g0 g → Post (packed vs) A g) :
    R (fnCx P f N F g0 Post) (.code .ret :: k) [] e own g := by
  intro hle tmps w hfit hh cs
  refine ⟨{ (fnCx P f N F g0 Post).fr tmps (.code .ret :: k) [] with mode := .returning }, w, ⟨packed vs, A, g, hle, hP hle, hh.pick hp, rfl, rfl, rfl, rfl, fn, hf, ?_⟩, .one (stepR_ret rfl)⟩
  have hm := mapM_list P tmps w rs vs hfit hh hres
  have : (results fn tmps).run P w = .ok (packed vs) w := by
    rw [results_eq, hr, List.mapM_toArray]
    simp only [Sem.run_bind, Sem.run_map]
    rw [hm]
    simp only [Result.andThen_ok, Sem.run_pure]
    match vs with
    | [] => rfl
    | [v] => rfl
    | _ :: _ :: _ => simp [packed]
  exact this
theorem R.ret0 {P : Program} {f : FuncId} {fn : Func} {N : Nat} {F : Frag} {g0 : Img} {Post : Value → List HProp → Img → Prop} {rs : List ResultVar} {vs : List Value}
    (hf : P.funcs[f]? = some fn) (hr : fn.results = rs.toArray) (hres : Res P e own g rs vs) (hP : Le g0 g → Post (packed vs) [] g) :
    R (fnCx P f N F g0 Post) (.code .ret :: k) [] e own g := .retK hf hr hres .nil hP
/-- A result in a cell that is owned. -/
theorem Res.c1 {P : Program} {t T b off T' : Nat} {cs : List Value} {v : Value} {rs : List ResultVar} {vs : List Value} {r : List HProp} [hT : TA P T false] (h : find e t = some (.pointer (some ⟨b, off, none⟩)))
    [ht : Tk b own T' cs r] [hw : Win cs off 1 [v]] (rr : Res P e own g rs vs) : Res P e own g (.cell t T :: rs) (v :: vs) := .cell1 h (.ofOwn ht.take hw) rr
theorem Res.cA {P : Program} {t T b off T' sz by_ : Nat} {zl us cs : List Value} {rs : List ResultVar} {vs : List Value} {r : List HProp} [hT : TA P T true] [hS : TY P T sz by_ zl] (h : find e t = some (.pointer (some ⟨b, off, none⟩)))
    [ht : Tk b own T' cs r] [hw : Win cs off sz us] (rr : Res P e own g rs vs) : Res P e own g (.cell t T :: rs) (.agg us.toArray :: vs) := .cellA h (.ofOwn ht.take hw) hw.get.1 rr

/-! ### Places that are numerals -/
class AddC (a b : Nat) (r : outParam Nat) : Prop where eq : a + b = r
instance {a : Nat} : AddC a 0 a := ⟨rfl⟩
instance {a b r : Nat} [h : AddC a b r] : AddC a (b + 1) (r + 1) := ⟨by rw [← h.eq]; rfl⟩
class OffC (off i n : Nat) (r : outParam Nat) : Prop where eq : off + i * n = r
instance {off n : Nat} : OffC off 0 n off := ⟨by simp⟩
instance {off i n r r' : Nat} [h : OffC off i n r] [h' : AddC r n r'] : OffC off (i + 1) n r' := ⟨by rw [← h'.eq, ← h.eq, Nat.succ_mul, Nat.add_assoc]⟩
section
variable {P : Program} {x y : Operand} {b off len cap n i r : Nat} {kk : IntKind} {t el : TypeId}
theorem QOk.fieldAddr0 {s : TypeId} {fields : List (Nat × Nat)} {f fo ft : Nat} {n by_ : Nat} {zl : List Value} [hT : TF P s fields] (hx : ev e x = some (.pointer (some ⟨b, 0, none⟩)))
    (hfl : fields[f]? = some (fo, ft)) [hS : TY P ft (n + 1) by_ zl] : QOk P (.fieldAddr s x f) ty e [] g (.pointer (some ⟨b, fo, none⟩)) := by
  have := QOk.fieldAddr (P := P) (ty := ty) (g := g) (s := s) hx hfl
  rwa [Nat.zero_add] at this
theorem QOk.fieldAddrZ {s : TypeId} {fields : List (Nat × Nat)} {f ft : Nat} {n by_ : Nat} {zl : List Value} [hT : TF P s fields] (hx : ev e x = some (.pointer (some ⟨b, off, none⟩)))
    (hfl : fields[f]? = some (0, ft)) [hS : TY P ft (n + 1) by_ zl] : QOk P (.fieldAddr s x f) ty e [] g (.pointer (some ⟨b, off, none⟩)) := QOk.fieldAddr (P := P) (ty := ty) (g := g) hx hfl
theorem QOk.indexAddrC [hT : TD P t (.slice el)] {by_ : Nat} {zl : List Value} [hS : TY P el n by_ zl]
    (hx : ev e x = some (.slice (some ⟨b, off, none⟩) len cap)) (hy : ev e y = some (.int kk (Int.ofNat i))) [ho : OffC off i n r] (hi : Nat.blt i len = true)
     : QOk P (.indexAddr t x y) ty e [] g (.pointer (some ⟨b, r, none⟩)) := by
  have hi' : i < len := Nat.le_of_ble_eq_true hi
  have := QOk.indexAddr (P := P) (ty := ty) (g := g) (t := t) hx hy ⟨Int.natCast_nonneg i, by simpa using hi'⟩
  rw [← ho.eq]; exact this
theorem QOk.indexAddrAC [hT : TD P t (.array len el)] {by_ : Nat} {zl : List Value} [hS : TY P el n by_ zl]
    (hx : ev e x = some (.pointer (some ⟨b, off, none⟩))) (hy : ev e y = some (.int kk (Int.ofNat i))) [ho : OffC off i n r] (hi : Nat.blt i len = true)
     : QOk P (.indexAddr t x y) ty e [] g (.pointer (some ⟨b, r, none⟩)) := by
  have hi' : i < len := Nat.le_of_ble_eq_true hi
  have := QOk.indexAddrA (P := P) (ty := ty) (g := g) (t := t) hx hy ⟨Int.natCast_nonneg i, by simpa using hi'⟩
  rw [← ho.eq]; exact this
end
end Go.Zed
