/- append of many; copies. -/
import Derived.Test.YtemgdeknjnlifaaZedL
namespace Go.Zed
open Go
variable {c : Cx} {k k' : List Item} {D D' : List Deferred} {e e' : List (Nat × Value)} {own own' : List HProp} {g g' : Img} {ty : TypeId} {K : Value → List HProp → Img → Prop}
theorem undef_ne {b : Bool} : undef ≠ .bool b := by simp [undef]
theorem ft_ne : Value.bool false ≠ .bool true := by simp
theorem tf_ne : Value.bool true ≠ .bool false := by simp
/-- Elements that can be read where a slice says. -/
structure Src (own : List HProp) (g : Img) (sz : Nat) (a : Option Addr) (m : Nat) (es : List (List Value)) : Prop where
  len : m = es.length
  el : ∀ x ∈ es, x.length = sz
  at_ : ∀ F w, Holds own F g w → ∀ j v, es.flatten[j]? = some v → ∃ b off, a = some ⟨b, off, none⟩ ∧ w.cell? ⟨b, off + j, none⟩ = some v
theorem flat_at {sz : Nat} : ∀ {es : List (List Value)} {j : Nat} {v : Value}, (∀ y ∈ es, y.length = sz) → es.flatten[j]? = some v → ∃ i x r, es[i]? = some x ∧ x[r]? = some v ∧ j = i * sz + r
  | [], j, v, _, h => by simp at h
  | y :: es, j, v, hl, h => by
    rw [List.flatten_cons, List.getElem?_append] at h
    have hy := hl y (List.mem_cons_self ..)
    split at h
    · exact ⟨0, y, j, rfl, h, by omega⟩
    · obtain ⟨i, x, r, h1, h2, h3⟩ := flat_at (fun z hz => hl z (List.mem_cons_of_mem _ hz)) h
      exact ⟨i + 1, x, r, by simpa using h1, h2, by rw [Nat.succ_mul]; omega⟩
theorem Sl.src {sz m : Nat} {a : Option Addr} {es : List (List Value)} (h : Sl g sz a m es) : Src own g sz a m es := by
  refine ⟨h.len, h.el, fun F w hh j v hv => ?_⟩
  obtain ⟨i, x, r, hx, hr, rfl⟩ := flat_at h.el hv
  obtain ⟨b, off, rfl, hm⟩ := h.at_ i x hx
  have := hm.reads (own := own) F w hh r v hr
  rw [add0] at this
  exact ⟨b, off, rfl, by rw [← Nat.add_assoc]; exact this⟩
theorem OpOk.appendG {x y : Operand} {t T sz by_ n cap m c2 : Nat} {zl : List Value} {a a2 : Option Addr} {es es2 : List (List Value)} {r : List HProp} [hT : TD c.P t (.slice T)] [hS : TY c.P T sz by_ zl]
    (hx : ev e x = some (.slice a n cap)) (hy : ev e y = some (.slice a2 m c2)) [hs : TkS a own T sz n cap es r] (hsrc : Src r g sz a2 m es2)
    (h1 : ∀ u ∈ es2.flatten, u.oneCell' = true) (hsz : Nat.blt 0 sz = true) (hB : (n + m) * by_ ≤ 140737488355328) (hm : n + m ≤ maxLen)
    (hK : ∀ a' cap', K (.slice a' (n + m) cap') (sl T sz a' (n + m) cap' (es ++ es2) :: r) g) : OpOk c D (.call { callee := .builtin .append, args := #[x, y], argTypes := #[t, t] }) ty e own g K := by
  refine .of_run (by simp) fun hle F tmps w hf hh => ?_
  obtain ⟨i, z, hi, hisz, hiby, hz, hzl, hzs⟩ := hS.ex
  have ht' := hT.eq
  have hh1 := hh.perm hs.take.perm
  obtain ⟨hn, hel, hcase⟩ := hh1.openSl
  obtain ⟨hm2, hel2, hat⟩ := hsrc
  have hel' : ∀ x ∈ es ++ es2, x.length = sz := by
    intro x hx; rcases List.mem_append.1 hx with h | h
    · exact hel x h
    · exact hel2 x h
  have hzs : z.cells.size = sz := by rw [hzl]; simpa using hzs
  have hfl2 := flat_len hel2
  have hsz' : 0 < sz := Nat.lt_of_succ_le (Nat.le_of_ble_eq_true hsz)
  have hrun : ∀ (v' : Value) (w' : World), (Builtin.append_ #[t, t] ty #[.slice a n cap, .slice a2 m c2]).run c.P w = .ok v' w' →
      ∀ o : Oper, o.op = .call { callee := .builtin .append, args := #[x, y], argTypes := #[t, t] } → o.type = ty → (execOp (Act.eval ⟨tmps, D⟩) o).run c.P w = .ok (.value v') w' := by
    intro v' w' hr o ho hty
    simp [execOp, ho, hty, resolve, invoke, builtin, hf.ev (by simp [Op.operands, Call.operands]) hx, hf.ev (by simp [Op.operands, Call.operands]) hy, hr]
  have hnc : n ≤ cap := by
    rcases hcase with ⟨_, h, h', _⟩ | ⟨_, _, _, h, _⟩
    · omega
    · exact h
  rcases Nat.eq_zero_or_pos m with hm0 | hm0
  · subst hm0
    have : es2 = [] := List.eq_nil_of_length_eq_zero hm2.symm
    subst this
    have hfc : (Builtin.firstCells i.size 0 (.slice a2 0 c2)).run c.P w = .ok #[] w := by
      cases a2 with
      | none => exact run_firstCells_none (P := c.P) w _ _ _ _
      | some b => exact run_firstCells_some (P := c.P) w _ _ b _ _ [] (by simp) (by simp)
    have hr : (Builtin.append_ #[t, t] ty #[.slice a n cap, .slice a2 0 c2]).run c.P w = .ok (.slice a n cap) w := by
      cases a <;> simp [Builtin.append_, run_underlying ht', sizeOf, typeInfo, hi, Builtin.lenOf, hnc, hfc, storeCells]
    have hh2 := hh1.perm (List.Perm.refl _)
    refine ⟨_, _, g, w, Le.refl g, hK a cap, ?_, fun o ho hty => .inl (hrun _ _ hr o ho hty)⟩
    simpa using hh1
  · obtain ⟨v0, hv0⟩ : ∃ v0, es2.flatten[0]? = some v0 := ⟨es2.flatten[0]'(by rw [hfl2, ← hm2]; exact Nat.mul_pos hm0 hsz'), by simp⟩
    have hnews : es2.flatten.length = m * i.size := by rw [hfl2, hisz, hm2]
    obtain ⟨b2, o2, rfl, _⟩ := hat F w hh1.drop 0 v0 hv0
    have hc : ∀ j u, es2.flatten[j]? = some u → w.cell? ((⟨b2, o2, none⟩ : Addr).add j) = some u := by
      intro j u hu
      obtain ⟨b3, o3, he, hcell⟩ := hat F w hh1.drop j u hu
      simp only [Option.some.injEq, Addr.mk.injEq, and_true] at he
      obtain ⟨rfl, rfl⟩ := he
      rw [add0]; exact hcell
    rcases hcase with ⟨rfl, rfl, rfl, hh2⟩ | ⟨b, sp, rfl, _, hcm, hsp, hh2⟩
    · have hr := run_append_nil (P := c.P) w t ty T i z ht' hi hz ⟨b2, o2, none⟩ m c2 es2.flatten hnews hc hm0 (by simp only [maxLen] at hm; omega) (by rw [hiby]; rw [Nat.zero_add] at hB; omega)
      have he : es = [] := List.eq_nil_of_length_eq_zero hn.symm
      subst he
      have hge := grownCap_ge w m 0 T
      have hcl := grownCap_le_maxLen w m 0 T (by rw [Nat.zero_add] at hm; exact hm)
      rw [Nat.zero_add] at hK
      refine ⟨_, _, g, _, Le.refl g, hK _ _, ?_, fun o ho hty => .inl (hrun _ _ hr o ho hty)⟩
      have e1 : (.cells (es2.flatten.toArray ++ Builtin.zeroCells z.cells (grownCap w m 0 T - m)) T (0, 0) : Obj) = .cells (([] ++ es2 : List (List Value)).flatten ++ (Builtin.zeroCells z.cells (grownCap w m 0 T - m)).toList).toArray T (0, 0) := by
        congr 1; simp
      have hal := hh2.alloc (w' := w.drew.alloc (.cells (es2.flatten.toArray ++ Builtin.zeroCells z.cells (grownCap w m 0 T - m)) T)) (by exact congrArg w.heap.push e1)
      exact hal.closeSl (by simpa using hm2) hel' hge hcl (by simp only [Array.length_toList, size_zeroCells, hzs])
    · have hfl := flat_len hel
      by_cases hroom : n + m ≤ cap
      · have hfit : n * i.size + es2.flatten.length ≤ (es.flatten ++ sp).toArray.size := by
          simp only [List.size_toArray, List.length_append, hfl, hsp, ← hn, hisz, hfl2, ← hm2]
          have : (cap - n) * sz ≥ m * sz := Nat.mul_le_mul_right _ (by omega)
          omega
        have hr := run_append_room (P := c.P) w t ty T i ht' hi b n cap _ hh2.blk ⟨b2, o2, none⟩ m c2 es2.flatten hnews hc h1 hroom hfit
        refine ⟨_, _, g, _, Le.refl g, hK _ _, ?_, fun o ho hty => .inl (hrun _ _ hr o ho hty)⟩
        have hset := hh2.set (w' := w.setRow b _) (setRow_heap_eq (cs := ((es.flatten ++ sp).take (n * i.size) ++ es2.flatten ++ (es.flatten ++ sp).drop (n * i.size + es2.flatten.length)).toArray) hh2.blk)
        have e1 : (es.flatten ++ sp).take (n * i.size) ++ es2.flatten ++ (es.flatten ++ sp).drop (n * i.size + es2.flatten.length) = (es ++ es2).flatten ++ sp.drop (m * sz) := by
          have h0 : es.flatten.length = n * i.size := by rw [hfl, hisz, hn]
          rw [← h0, List.take_left, List.drop_append, hfl2, ← hm2]
          simp
        rw [e1] at hset
        simp only [List.toList_toArray, e1]
        exact hset.closeSl (by simp [hn, hm2]) hel' hroom hcm (by rw [List.length_drop, hsp, ← Nat.sub_sub, Nat.sub_mul (cap - n) m])
      · have holds : ∀ j u, es.flatten[j]? = some u → w.cell? ((⟨b, 0, none⟩ : Addr).add j) = some u := by
          intro j u hu
          have := hh2.blk
          rw [add0]
          have hlt := (List.getElem?_eq_some_iff.1 hu).1
          simp [World.cell?, this, List.getElem?_append_left hlt, hu]
        have hr := run_append_grow (P := c.P) w t ty T i z ht' hi hz ⟨b, 0, none⟩ n cap es.flatten (by rw [hfl, hisz, hn]) holds ⟨b2, o2, none⟩ m c2 es2.flatten hnews hc (by omega) (by simp only [maxLen] at hm; omega) (growslice_fits (by omega) (by rw [hiby]; exact hB))
        have hge := grownCap_ge w (n + m) cap T
        have hcl := grownCap_le_maxLen w (n + m) cap T hm
        refine ⟨_, _, g, _, Le.refl g, hK _ _, ?_, fun o ho hty => .inl (hrun _ _ hr o ho hty)⟩
        have e1 : (.cells (es.flatten.toArray ++ es2.flatten.toArray ++ Builtin.zeroCells z.cells (grownCap w (n + m) cap T - (n + m))) T (0, 0) : Obj) = .cells ((es ++ es2).flatten ++ (Builtin.zeroCells z.cells (grownCap w (n + m) cap T - (n + m))).toList).toArray T (0, 0) := by
          congr 1; simp
        have hal := (hh2.alloc (w' := w.drew.alloc (.cells (es.flatten.toArray ++ es2.flatten.toArray ++ Builtin.zeroCells z.cells (grownCap w (n + m) cap T - (n + m))) T)) (by exact congrArg w.heap.push e1)).swap.drop
        exact hal.closeSl (by simp [hn, hm2]) hel' hge hcl (by simp only [Array.length_toList, size_zeroCells, hzs])
/-- append to a slice that was just made empty. -/
theorem OpOk.appendE {x y : Operand} {t T sz by_ m c2 b : Nat} {zl : List Value} {a2 : Option Addr} {es2 : List (List Value)} {r : List HProp} [hT : TD c.P t (.slice T)] [hS : TY c.P T sz by_ zl]
    (hx : ev e x = some (.slice (some ⟨b, 0, none⟩) 0 0)) (hy : ev e y = some (.slice a2 m c2)) [ht : Tk b own T [] r] (hsrc : Sl g sz a2 m es2)
    (h1 : ∀ u ∈ es2.flatten, u.oneCell' = true) (hsz : Nat.blt 0 sz = true) (hB : m * by_ ≤ 140737488355328) (hm : m ≤ maxLen)
    (hK : ∀ a' cap', K (.slice a' m cap') (sl T sz a' m cap' es2 :: r) g) : OpOk c D (.call { callee := .builtin .append, args := #[x, y], argTypes := #[t, t] }) ty e own g K := by
  have key : OpOk c D (.call { callee := .builtin .append, args := #[x, y], argTypes := #[t, t] }) ty e (sl T sz (some ⟨b, 0, none⟩) 0 0 [] :: r) g K := by
    refine OpOk.appendG hx hy (es := []) (es2 := es2) hsrc.src h1 hsz (by rw [Nat.zero_add]; exact hB) (by rw [Nat.zero_add]; exact hm) ?_
    intro a' cap'
    rw [Nat.zero_add]
    exact hK a' cap'
  intro hle F tmps w hfit hh
  refine key hle F tmps w hfit ?_
  have := (hh.perm ht.take.perm)
  exact Holds.closeSl (es := []) (sp := []) (n := 0) (cap := 0) (by simpa using this) rfl (by simp) (Nat.le_refl 0) (Nat.zero_le _) (by simp)
theorem eqGuard_slice {P : Program} (w : World) (op : BinOp) (t : TypeId) (a b : Option Addr) (n m n' m' : Nat) (x y : Operand) : (eqGuard op t x y (.slice a n m) (.slice b n' m')).run P w = .ok () w := by
  unfold eqGuard; cases op <;> simp
theorem run_equal_sliceNil {P : Program} {t el : TypeId} [hT : TD P t (.slice el)] (a : Option Addr) (n m : Nat) (w : World) : (Op.equal t (.slice a n m) (.slice none 0 0)).run P w = .ok a.isNone w := by
  unfold Op.equal Op.maxDepth
  rw [show (10000 : Nat) = 9999 + 1 from rfl, Op.equalIn]
  cases a <;> simp [hT.run]
theorem QOk.sliceNil {P : Program} {x y : Operand} {t el yt : TypeId} [hT : TD P t (.slice el)] {a : Option Addr} {n m : Nat} {r : Bool} (hx : ev e x = some (.slice a n m)) (hy : ev e y = some (.slice none 0 0)) (hr : a.isNone = r) :
    QOk P (.binOp .eql t x y yt) ty e [] g (.bool r) := by
  intro _ _ _ w hf _ o ho _
  subst hr
  simp only [execOp, ho, hf.ev (by simp [Op.operands, Call.operands]) hx, hf.ev (by simp [Op.operands, Call.operands]) hy, Sem.run_bind, eqGuard_slice, Result.andThen_ok, binOp, run_equal_sliceNil, Sem.run_pure]
theorem QOk.sliceNotNil {P : Program} {x y : Operand} {t el yt : TypeId} [hT : TD P t (.slice el)] {a : Option Addr} {n m : Nat} {r : Bool} (hx : ev e x = some (.slice a n m)) (hy : ev e y = some (.slice none 0 0)) (hr : a.isSome = r) :
    QOk P (.binOp .neq t x y yt) ty e [] g (.bool r) := by
  intro _ _ _ w hf _ o ho _
  subst hr
  simp only [execOp, ho, hf.ev (by simp [Op.operands, Call.operands]) hx, hf.ev (by simp [Op.operands, Call.operands]) hy, Sem.run_bind, eqGuard_slice, Result.andThen_ok, binOp, run_equal_sliceNil, Sem.run_pure]
  cases a <;> rfl
/-- A function value is called that says yes or no. -/
theorem OpOk.call2 {fx : Operand} {fv : Value} {vs : List Value} {xs : List Operand} {ats : Array TypeId} {p : HProp} {p1 p2 : Img → HProp} {B : List HProp}
    (hf : ev e fx = some fv) (hx : evs e xs = some vs) (hc : Cv c.P fv vs [p] g (fun v own' g2 => (v = .bool true ∧ own' = [p1 g2]) ∨ (v = .bool false ∧ own' = [p2 g2]))) (ht : Take p own B)
    (h1 : ∀ g2, Le g g2 → K (.bool true) (p1 g2 :: B) g2) (h2 : ∀ g2, Le g g2 → K (.bool false) (p2 g2 :: B) g2) :
    OpOk c D (.call { callee := .value fx, args := xs.toArray, argTypes := ats }) ty e own g K := by
  refine .callCv (A := [p]) (B := B) hf hx hc ht.perm ?_
  rintro v own' g2 hle (⟨rfl, rfl⟩ | ⟨rfl, rfl⟩)
  · exact h1 g2 hle
  · exact h2 g2 hle
/-- A function value is called that gives a value and leaves all as it is. -/
theorem OpOk.callPure {fx : Operand} {fv : Value} {vs : List Value} {xs : List Operand} {ats : Array TypeId} {u : Value}
    (hf : ev e fx = some fv) (hx : evs e xs = some vs) (hc : Cv c.P fv vs [] g (fun v own' g2 => own' = [] ∧ g2 = g ∧ v = u)) (hK : K u own g) :
    OpOk c D (.call { callee := .value fx, args := xs.toArray, argTypes := ats }) ty e own g K := by
  refine .callCv (A := []) (B := own) hf hx hc (.refl _) ?_
  rintro v own' g2 _ ⟨rfl, rfl, rfl⟩
  exact hK
theorem OpOk.weakT {op : Op} {p q : HProp} {B : List HProp} (h : OpOk c D op ty e (q :: B) g K) (ht : Take p own B) (hpq : ∀ fr, p fr → q fr) : OpOk c D op ty e own g K := by
  intro hle F tmps w hfit hh
  exact h hle F tmps w hfit ((hh.perm ht.perm).weak hpq)
/-- A slice of one's own is laid to rest ahead of an operation. -/
theorem OpOk.freezeS {op : Op} {T sz n cap : Nat} {a : Option Addr} {es : List (List Value)} {r : List HProp} [hs : TkS a own T sz n cap es r] (h : ∀ g2, Le g g2 → Sl g2 sz a n es → OpOk c D op ty e r g2 K) : OpOk c D op ty e own g K := by
  intro hle F tmps w hfit hh ops i rest k cs o ho hop hty hw
  have hh1 := hh.perm hs.take.perm
  obtain ⟨hn, hl, hcase⟩ := hh1.openSl
  have fin : ∀ g2, Le g g2 → Sl g2 sz a n es → Holds r F g2 w → ∃ v own' g' w', Le g g' ∧ K v own' g' ∧ Holds own' F g' w' ∧ Steps c.P (lone (c.fr tmps (.inRegion ops (i :: rest) :: k) D) cs w) (lone ((c.fr tmps (.inRegion ops (i :: rest) :: k) D).finish v) cs w') := by
    intro g2 hle2 hsl hh2
    obtain ⟨v, own', g', w', h1, h2, h3, h4⟩ := h g2 hle2 hsl (hle.trans hle2) F tmps w hfit hh2 ops i rest k cs o ho hop hty hw
    exact ⟨v, own', g', w', hle2.trans h1, h2, h3, h4⟩
  rcases hcase with ⟨ha, h0, hc, hh2⟩ | ⟨b, sp, ha, hc, hm, hsp, hh2⟩
  · have : es = [] := List.eq_nil_of_length_eq_zero (by omega)
    subst this; subst h0
    exact fin g (Le.refl g) .nil hh2
  · obtain ⟨hf, hle2⟩ := hh2.freeze
    refine fin _ hle2 ⟨hn, hl, fun i x hx => ⟨b, 0, ha, _, T, _, if_pos rfl, fun j v hv => ?_⟩⟩ hf
    have := look_flat (sp := sp) hl hx j v hv
    simpa using this
/-- A block of one's own is laid to rest ahead of an operation. -/
theorem OpOk.freezeB {op : Op} {b : Nat} {o : Obj} {r : List HProp} (ht : Take (blk b o) own r) (h : ∀ g2, Le g g2 → g2.m b = some o → OpOk c D op ty e r g2 K) : OpOk c D op ty e own g K := by
  intro hle F tmps w hfit hh ops i rest k cs o' ho hop hty hw
  obtain ⟨hf, hle2⟩ := (hh.perm ht.perm).freeze
  obtain ⟨v, own', g', w', h1, h2, h3, h4⟩ := h _ hle2 (if_pos rfl) (hle.trans hle2) F tmps w hfit hf ops i rest k cs o' ho hop hty hw
  exact ⟨v, own', g', w', hle2.trans h1, h2, h3, h4⟩
theorem slOfC {sz b T : Nat} {cs : List Value} {es : List (List Value)} (h : g.m b = some (.cells cs.toArray T (0, 0))) (hc : cs = es.flatten) (hl : ∀ x ∈ es, x.length = sz) : Sl g sz (some ⟨b, 0, none⟩) es.length es := by
  refine ⟨rfl, hl, fun i x hx => ⟨b, 0, rfl, _, T, _, h, fun j v hv => ?_⟩⟩
  have := look_flat (sz := sz) (sp := []) hl hx j v hv
  rw [List.append_nil] at this
  simpa [hc] using this
theorem R.freezeSlT {T sz n cap : Nat} (a : Option Addr) {es : List (List Value)} {r : List HProp} [hs : TkS a own T sz n cap es r] (h : ∀ g', Le g g' → Sl g' sz a n es → R c k D e r g') : R c k D e own g := R.perm hs.take.perm (R.freezeSl h)
/-- The same, with a slice among the arguments that is laid to rest. -/
theorem OpOk.call2F {fx : Operand} {fv : Value} {vs : List Value} {xs : List Operand} {ats : Array TypeId} {T sz n cap : Nat} {a : Option Addr} {es : List (List Value)} {r : List HProp} {p p1 p2 : Img → HProp} {B : List HProp} (a' : Option Addr) (_ : a' = a)
    (hf : ev e fx = some fv) (hx : evs e xs = some vs) [hs : TkS a own T sz n cap es r] (hp : ∀ g2, Le g g2 → ∀ fr, p g fr → p g2 fr)
    (hc : ∀ g2, Le g g2 → Sl g2 sz a n es → Cv c.P fv vs [p g2] g2 (fun v own' g3 => (v = .bool true ∧ own' = [p1 g3]) ∨ (v = .bool false ∧ own' = [p2 g3]))) (ht : Take (p g) r B)
    (h1 : ∀ g2, Le g g2 → K (.bool true) (p1 g2 :: B) g2) (h2 : ∀ g2, Le g g2 → K (.bool false) (p2 g2 :: B) g2) :
    OpOk c D (.call { callee := .value fx, args := xs.toArray, argTypes := ats }) ty e own g K := by
  refine OpOk.freezeS (a := a) fun g2 hle hsl => ?_
  refine OpOk.weakT (q := p g2) (B := B) ?_ ht (hp g2 hle)
  refine .callCv (A := [p g2]) (B := B) hf hx (hc g2 hle hsl) (.refl _) ?_
  rintro v own' g3 hle3 (⟨rfl, rfl⟩ | ⟨rfl, rfl⟩)
  · exact h1 g3 (hle.trans hle3)
  · exact h2 g3 (hle.trans hle3)
end Go.Zed
