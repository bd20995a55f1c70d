/- Function values that are called; loops over functions, round by round; leaving with a mark. -/
import Derived.Test.YtemgdeknjnlifaaZedS
import Derived.RangeFuncIn
import Derived.RangeFuncLeaves
import Derived.RangeFuncRecord
namespace Go.Zed
open Go
variable {c : Cx} {k k' : List Item} {D D' : List Deferred} {e e' : List (Nat × Value)} {own own' : List HProp} {g g' : Img} {ty : TypeId} {K : Value → List HProp → Img → Prop}

/-! ### What is owned, under a name -/
def star (L : List HProp) : HProp := Sat L
def ex (φ : List HProp → Prop) : HProp := fun fr => ∃ L, φ L ∧ Sat L fr
theorem Holds.unstar {L : List HProp} {F : Frag} {w : World} (h : Holds (star L :: own) F g w) : Holds (L ++ own) F g w := by
  obtain ⟨fr, ⟨f1, f2, rfl, h1, h2⟩, hg⟩ := h
  exact ⟨_, Sat.append.2 ⟨f1, f2, rfl, h1, h2⟩, hg⟩
theorem Holds.toStar {L : List HProp} {F : Frag} {w : World} (h : Holds (L ++ own) F g w) : Holds (star L :: own) F g w := by
  obtain ⟨fr, hs, hg⟩ := h
  obtain ⟨f1, f2, rfl, h1, h2⟩ := Sat.append.1 hs
  exact ⟨_, ⟨f1, f2, rfl, h1, h2⟩, hg⟩
theorem Holds.openEx {φ : List HProp → Prop} {F : Frag} {w : World} (h : Holds (ex φ :: own) F g w) : ∃ L, φ L ∧ Holds (L ++ own) F g w := by
  obtain ⟨fr, ⟨f1, f2, rfl, ⟨L, hL, h1⟩, h2⟩, hg⟩ := h
  exact ⟨L, hL, _, Sat.append.2 ⟨f1, f2, rfl, h1, h2⟩, hg⟩
theorem Holds.closeEx {φ : List HProp → Prop} {L : List HProp} {F : Frag} {w : World} (hL : φ L) (h : Holds (L ++ own) F g w) : Holds (ex φ :: own) F g w := by
  obtain ⟨fr, hs, hg⟩ := h
  obtain ⟨f1, f2, rfl, h1, h2⟩ := Sat.append.1 hs
  exact ⟨_, ⟨f1, f2, rfl, ⟨L, hL, h1⟩, h2⟩, hg⟩
theorem Holds.weak {p q : HProp} {F : Frag} {w : World} (hpq : ∀ fr, p fr → q fr) (h : Holds (p :: own) F g w) : Holds (q :: own) F g w := by
  obtain ⟨fr, ⟨f1, f2, rfl, h1, h2⟩, hg⟩ := h
  exact ⟨_, ⟨f1, f2, rfl, hpq _ h1, h2⟩, hg⟩
theorem R.openEx {φ : List HProp → Prop} (h : ∀ L, φ L → R c k D e (L ++ own) g) : R c k D e (ex φ :: own) g := fun hle tmps w hf hh => by
  obtain ⟨L, hL, hh⟩ := hh.openEx
  exact h L hL hle tmps w hf hh
theorem R.closeEx {φ : List HProp → Prop} {L : List HProp} (hL : φ L) (h : R c k D e (ex φ :: own) g) : R c k D e (L ++ own) g := fun hle tmps w hf hh => h hle tmps w hf (hh.closeEx hL)
theorem R.swap {p q : HProp} (h : R c k D e (q :: p :: own) g) : R c k D e (p :: q :: own) g := .perm (.swap _ _ _) h
theorem R.freezeT {b : Nat} {o : Obj} {r : List HProp} (ht : Take (blk b o) own r) (h : ∀ g', Le g g' → g' b = some o → R c k D e r g') : R c k D e own g := R.perm ht.perm (R.freeze h)
theorem Fc.perm {P : Program} {f : FuncId} {args : Array Value} {F : Frag} {Q : Value → List HProp → Img → Prop} (hp : own.Perm own') (h : Fc P f args own' F g Q) : Fc P f args own F g Q := fun w hh => h w (hh.perm hp)

/-! ### A function value is called -/
def Enters (P : Program) (fn : Go.Fn) (as captured : Array Value) (w : World) (fr : Frame) : Prop :=
  (∃ f as', (invoke (.fn fn captured) as).run P w = .ok (.enter f as') w ∧ fr = Frame.enter P f as' .normal) ∨
  (∃ l f tmps a b, (invoke (.fn fn captured) as).run P w = .ok (.round l f tmps a b) w ∧ fr = Frame.round l f tmps a b .normal)
def Cv (P : Program) (fv : Value) (args : List Value) (own : List HProp) (g : Img) (Post : Value → List HProp → Img → Prop) : Prop :=
  ∀ F w, Holds own F g w → ∃ fn first captured fr0, fv = .func fn first captured ∧ Enters P fn (first ++ args.toArray) captured w fr0 ∧
    ∀ caller cs, ∃ v own' g' w', Le g g' ∧ Post v own' g' ∧ Holds own' F g' w' ∧ Steps P (lone fr0 (caller :: cs) w) (lone (caller.finish v) cs w')
theorem Cv.mono {P : Program} {fv : Value} {args : List Value} {Q Q' : Value → List HProp → Img → Prop} (h : Cv P fv args own g Q) (hq : ∀ v own' g', Le g g' → Q v own' g' → Q' v own' g') : Cv P fv args own g Q' := by
  intro F w hh
  obtain ⟨fn, first, captured, fr0, h1, h2, h3⟩ := h F w hh
  refine ⟨fn, first, captured, fr0, h1, h2, fun caller cs => ?_⟩
  obtain ⟨v, own', g', w', hle, hQ, hh', hs⟩ := h3 caller cs
  exact ⟨v, own', g', w', hle, hq _ _ _ hle hQ, hh', hs⟩
theorem Cv.ofFc {P : Program} {f : Nat} [hF : CF P f] {fl cl args : List Value} {Q : Value → List HProp → Img → Prop} (hc : ∀ F, Fc P f (fl ++ (args ++ cl)).toArray own F g Q) : Cv P (.func (.func f) fl.toArray cl.toArray) args own g Q := by
  intro F w hh
  refine ⟨.func f, fl.toArray, cl.toArray, _, rfl, .inl ⟨f, (fl ++ (args ++ cl)).toArray, ?_, rfl⟩, fun caller cs => ?_⟩
  · have : fl.toArray ++ args.toArray ++ cl.toArray = (fl ++ (args ++ cl)).toArray := by simp
    rw [invoke, this]; exact hF.run _ _
  · obtain ⟨_, w', fr, ⟨v, own', g', rfl, hle, hQ, hh'⟩, hcomes, _, hleave⟩ := hc F w hh (caller :: cs)
    exact ⟨v, own', g', w', hle, hQ, hh', Steps.trans hcomes (.one (step_leave_returned hleave))⟩
theorem Cv.perm {P : Program} {fv : Value} {args : List Value} {Q : Value → List HProp → Img → Prop} (hp : own.Perm own') (h : Cv P fv args own' g Q) : Cv P fv args own g Q := fun F w hh => h F w (hh.perm hp)
theorem Cv.post {P : Program} {fv : Value} {args : List Value} {Q Q' : Value → List HProp → Img → Prop} (h : Cv P fv args own g Q) (hq : ∀ v own' g', Le g g' → Q v own' g' → ∃ own2, Q' v own2 g' ∧ ∀ F w, Holds own' F g' w → Holds own2 F g' w) : Cv P fv args own g Q' := by
  intro F w hh
  obtain ⟨fn, first, captured, fr0, h1, h2, h3⟩ := h F w hh
  refine ⟨fn, first, captured, fr0, h1, h2, fun caller cs => ?_⟩
  obtain ⟨v, own', g', w', hle, hQ, hh', hs⟩ := h3 caller cs
  obtain ⟨own2, hQ2, hc⟩ := hq _ _ _ hle hQ
  exact ⟨v, own2, g', w', hle, hQ2, hc _ _ hh', hs⟩
/-- What is owned besides is set aside. -/
theorem Cv.frame {P : Program} {fv : Value} {args : List Value} {A B : List HProp} {Q Q' : Value → List HProp → Img → Prop} (h : Cv P fv args A g Q) (hq : ∀ v own' g', Le g g' → Q v own' g' → ∃ own2, Q' v own2 g' ∧ ∀ F w, Holds (own' ++ B) F g' w → Holds own2 F g' w) : Cv P fv args (A ++ B) g Q' := by
  intro F w hh
  obtain ⟨fb, hsb, hA⟩ := hh.split
  obtain ⟨fn, first, captured, fr0, h1, h2, h3⟩ := h (fb ++ F) w hA
  refine ⟨fn, first, captured, fr0, h1, h2, fun caller cs => ?_⟩
  obtain ⟨v, own', g', w', hle, hQ, hh', hs⟩ := h3 caller cs
  obtain ⟨own2, hQ2, hc⟩ := hq _ _ _ hle hQ
  exact ⟨v, own2, g', w', hle, hQ2, hc _ _ (hh'.join hsb), hs⟩
theorem OpOk.callCv {fx : Operand} {fv : Value} {vs : List Value} {xs : List Operand} {ats : Array TypeId} {A B : List HProp} {Q : Value → List HProp → Img → Prop}
    (hf : ev e fx = some fv) (hx : evs e xs = some vs) (hc : Cv c.P fv vs A g Q) (hp : own.Perm (A ++ B)) (hK : ∀ v own' g', Le g g' → Q v own' g' → K v (own' ++ B) g') :
    OpOk c D (.call { callee := .value fx, args := xs.toArray, argTypes := ats }) ty e own g K := by
  intro hle F tmps w hfit hh ops i rest k cs o ho hop hty hw
  obtain ⟨fb, hsb, hA⟩ := (hh.perm hp).split
  obtain ⟨fn, first, captured, fr0, rfl, hen, hrun⟩ := hc (fb ++ F) w hA
  obtain ⟨v, own', g', w', hle', hQ, hh', hs⟩ := hrun (c.fr tmps (.inRegion ops (i :: rest) :: k) D) cs
  refine ⟨v, own' ++ B, g', w', hle', hK v own' g' hle' hQ, hh'.join hsb, ?_⟩
  have hg := stepGR_op (P := c.P) (b := c.base) (a := ⟨tmps, D⟩) (k := k) (cs := cs) (w := w) (ops := ops) (i := i) (rest := rest) ho hw
  rw [Oper.semAt_eq _ _ _ (fun cl => hop ▸ (by simp))] at hg
  have h1 := hfit.ev (D := D) (by simp [Op.operands, Call.operands]) hf
  have h2 := evs_mapA (D := D) hfit (xs := xs) (vs := vs) (by simp [Op.operands, Call.operands]; exact fun x hx => .inr hx) hx
  have hres : (execOp (Act.eval ⟨tmps, D⟩) o).run c.P w = (invoke (.fn fn captured) (first ++ vs.toArray)).run c.P w := by
    simp [execOp, hop, resolve, h1, h2, Deferred.ofValue]
  have henter : step c.P (lone (c.fr tmps (.inRegion ops (i :: rest) :: k) D) cs w) = .next (lone fr0 (c.fr tmps (.inRegion ops (i :: rest) :: k) D :: cs) w) := by
    refine step_lone_go ?_
    rw [Cx.fr, hg]
    rcases hen with ⟨f, as', hr, rfl⟩ | ⟨l, f, tm, a, b, hr, rfl⟩
    · simp [stepG.apply, hres, hr, Frame.atR]
    · simp [stepG.apply, hres, hr, Frame.atR]
  exact .head henter hs

/-! ### Rounds -/
@[reducible] def lp (l : Nat) (r : Loop) (st : LoopState) (pe : Option Code) : HProp := blk l (.loop { r with state := st, pending := pe })
@[reducible] def mk (r0 : Nat) : HProp := blk r0 (.deferred (some []))
def rndT (P : Program) (F : Frag) (g : Img) (Post : Value → List HProp → Img → Prop) : Frame → World → Prop := fun fr w =>
  ∃ v own' g' w2, Le g g' ∧ Post v own' g' ∧ Holds own' F g' w2 ∧ ∀ caller cs, step P (lone fr (caller :: cs) w) = .next (lone (caller.finish v) cs w2)
@[reducible] def rndCx (P : Program) (fn : FuncId) (l N : Nat) (F : Frag) (g : Img) (Post : Value → List HProp → Img → Prop) : Cx :=
  { P := P, fn := fn, ro := some l, N := N, F := F, g0 := g, T := rndT P F g Post }
def putL : List Nat → List Value → List (Nat × Value) → List (Nat × Value)
  | t :: ts, v :: vs, e => putL ts vs ((t, v) :: e)
  | _, _, e => e
theorem Fits.putL {N : Nat} : ∀ {ts : List Nat} {vs : List Value} {e : List (Nat × Value)} {tmps : Array Value}, Fits N e tmps → (ts.all fun t => Nat.blt t N) = true →
    Fits N (putL ts vs e) ((ts.zip vs).foldl (fun tmps (x : Nat × Value) => tmps.setIfInBounds x.1 x.2) tmps)
  | [], _, _, _, h, _ => by simpa [Zed.putL] using h
  | _ :: _, [], _, _, h, _ => by simpa [Zed.putL] using h
  | t :: ts, v :: vs, e, tmps, h, hN => by
    simp only [List.all_cons, Bool.and_eq_true] at hN
    simp only [Zed.putL, List.zip_cons_cons, List.foldl_cons]
    exact (h.put hN.1).putL hN.2
theorem Cv.yield {P : Program} {l N : Nat} {r : Loop} {ts : List Nat} {args : List Value} {pe : Option Code} {Post : Value → List HProp → Img → Prop} (hfit : Fits N e r.tmps) (hps : r.params = ts.toArray) (hn : args.length = ts.length)
    (hN : (ts.all fun t => Nat.blt t N) = true) (h : ∀ F, R (rndCx P r.fn l N F g Post) [.code r.assign, .beginRound, .code r.body] [] (putL ts args e) (lp l r .ready pe :: own) g) :
    Cv P (.func (.yield l) #[] #[]) args (lp l r .ready pe :: own) g Post := by
  intro F w hh
  have hl := hh.blk
  refine ⟨.yield l, #[], #[], Frame.round l r.fn ((r.params.zip args.toArray).foldl (fun tmps (x : Nat × Value) => tmps.setIfInBounds x.1 x.2) r.tmps) r.assign r.body .normal, rfl, .inr ⟨l, r.fn, _, r.assign, r.body, ?_, rfl⟩, fun caller cs => ?_⟩
  · have := run_yield (P := P) (args := args.toArray) hl (by simp [hps, hn])
    simpa [invoke] using this
  · obtain ⟨fr', w', ⟨v, own', g', w2, hle, hP, hh', hst⟩, hs⟩ := h F (Le.refl g) _ w (hfit.putL (vs := args) hN) hh (caller :: cs)
    refine ⟨v, own', g', w2, hle, hP, hh', Steps.trans ?_ (.one (hst caller cs))⟩
    have e0 : Frame.round l r.fn ((r.params.zip args.toArray).foldl (fun tmps (x : Nat × Value) => tmps.setIfInBounds x.1 x.2) r.tmps) r.assign r.body .normal =
        (rndCx P r.fn l N F g Post).fr ((ts.zip args).foldl (fun tmps (x : Nat × Value) => tmps.setIfInBounds x.1 x.2) r.tmps) [.code r.assign, .beginRound, .code r.body] [] := by
      simp [Frame.round, Cx.fr, Cx.base, Frame.atR, rndCx, hps]
    rw [e0]
    exact hs
theorem R.begin {l : Nat} {r : Loop} {pe : Option Code} {rest : List HProp} (hro : c.ro = some l) (ht : Take (lp l r .ready pe) own rest) (h : R c k D e (lp l r .busy pe :: rest) g) : R c (.beginRound :: k) D e own g := by
  refine .perm ht.perm ?_
  intro hle tmps w hf hh cs
  have hl := hh.blk
  have hr := run_beginRound (P := c.P) hl rfl
  obtain ⟨fr', w', ht', hs⟩ := h hle tmps _ hf (hh.set (w' := w.putObj l _) rfl) cs
  exact ⟨fr', w', ht', .head (stepR_beginRound hro hr) hs⟩
section
variable {P : Program} {fn : FuncId} {l N : Nat} {F : Frag} {g0 : Img} {Post : Value → List HProp → Img → Prop} {r : Loop} {pe : Option Code} {rest A : List HProp}
theorem R.next (hp : Pick own (lp l r .busy pe :: A) rest) (hP : Le g0 g → Post (.bool true) (lp l r .ready none :: A) g) : R (rndCx P fn l N F g0 Post) [] D e own g := by
  intro hle tmps w hf hh cs
  have hh1 := hh.pick hp
  have hl := hh1.blk
  have hr := run_endRound (P := P) none hl
  refine ⟨_, w, ⟨_, _, g, _, hle, hP hle, hh1.set (w' := w.putObj l _) rfl, fun caller cs => ?_⟩, .refl _ _⟩
  exact stepR_round_end rfl rfl hr
theorem R.leaveRet (hp : Pick own (lp l r .busy pe :: A) rest) (hP : Le g0 g → Post (.bool false) (lp l r .done (some .ret) :: A) g) : R (rndCx P fn l N F g0 Post) (.code .ret :: k) D e own g := by
  intro hle tmps w hf hh cs
  have hh1 := hh.pick hp
  have hl := hh1.blk
  have hr := run_endRound (P := P) (some .ret) hl
  refine ⟨_, w, ⟨_, _, g, _, hle, hP hle, hh1.set (w' := w.putObj l _) rfl, fun caller cs => ?_⟩, .refl _ _⟩
  exact stepR_round_ret rfl rfl hr
theorem R.leaveExit {id : Nat} (hx : exitTo id k = none) (hp : Pick own (lp l r .busy pe :: A) rest) (hP : Le g0 g → Post (.bool false) (lp l r .done (some (.exit id)) :: A) g) : R (rndCx P fn l N F g0 Post) (.code (.exit id) :: k) D e own g := by
  intro hle tmps w hf hh cs
  have hh1 := hh.pick hp
  have hl := hh1.blk
  have hr := run_endRound (P := P) (some (.exit id)) hl
  refine ⟨_, w, ⟨_, _, g, _, hle, hP hle, hh1.set (w' := w.putObj l _) rfl, fun caller cs => ?_⟩, .refl _ _⟩
  exact stepR_round_exit rfl rfl hx hr
end

/-! ### The loop -/
@[reducible] def mark (r0 : Nat) : Deferred := { target := .collected r0, args := #[] }
/-- The loop's record behind the call, the block, and what is owned besides. -/
def lq (l r0 : Nat) (r : Loop) (Q : Option Code → List HProp → Img → Prop) (g : Img) : HProp := fun fr => ∃ j st L, st ≠ .busy ∧ Q j L g ∧ Sat (lp l r st j :: mk r0 :: L) fr
theorem R.rangeFunc {fx : Operand} {ps : Array Tmp} {assign body : Code} {f : Nat} [hF : CF c.P f] {cl : List Value} {A B Own : List HProp} {Q : Option Code → List HProp → Img → Prop} (hro : c.ro = none)
    (hf : ev e fx = some (.func (.func f) #[] cl.toArray)) (hp : own.Perm (A ++ B))
    (hcall : ∀ (l r0 : Nat) (r : Loop), r.fn = c.fn → Fits c.N e r.tmps → r.params = ps → r.assign = assign → r.body = body →
      ∀ F, Fc c.P f (.func (.yield l) #[] #[] :: cl).toArray (lp l r .ready none :: mk r0 :: A) F g (fun _ own' g' => own' = lq l r0 r Q g' :: Own))
    (hk : ∀ j L g' r0, Le g g' → Q j L g' → R c ((j.map Item.code).toList ++ k) (mark r0 :: D) e (mk r0 :: (L ++ (Own ++ B))) g') :
    R c (.code (.rangeFunc fx ps assign body) :: k) D e own g := by
  intro hle tmps w hfit hh cs
  obtain ⟨fb, hsb, hA⟩ := (hh.perm hp).split
  let r : Loop := { state := .ready, pending := none, fn := c.fn, tmps, params := ps, assign, body, defers := w.heap.size }
  let w1 := w.alloc (.deferred (some []))
  let w2 := w1.alloc (.loop r)
  have hen : (Instr.enterLoop c.base.fn tmps ps assign body c.base.roundOf).run c.P w = .ok (w.heap.size + 1, [mark w.heap.size]) w2 := by
    have : c.base.roundOf = none := hro
    rw [this]; exact run_enterLoop_outer _ _ _ _ _
  have hsz : w1.heap.size = w.heap.size + 1 := Array.size_push _
  have hA1 := hA.alloc (w' := w1) (o := .deferred (some [])) rfl
  have hA2 := hA1.alloc (w' := w2) (o := .loop r) rfl
  rw [hsz] at hA2
  have hA3 : Holds (lp (w.heap.size + 1) r .ready none :: mk w.heap.size :: A) (fb ++ c.F) g w2 := hA2
  have hfx := ev_eval (D := D) hfit hf
  obtain ⟨_, w3, fr, ⟨v, own', g', rfl, hle', rfl, hh'⟩, hcomes, _, hleave⟩ := hcall (w.heap.size + 1) w.heap.size r rfl hfit rfl rfl rfl (fb ++ c.F) w2 hA3
    (c.base.atR ⟨tmps, mark w.heap.size :: D⟩ (.inRangeFunc (w.heap.size + 1) :: k) :: cs)
  obtain ⟨fr1, ⟨f1, f2, rfl, ⟨j, st, L, hst, hQ, h1⟩, h2⟩, hg'⟩ := hh'
  have hh3 : Holds (lp (w.heap.size + 1) r st j :: mk w.heap.size :: (L ++ Own)) (fb ++ c.F) g' w3 := ⟨_, Sat.append (as := lp (w.heap.size + 1) r st j :: mk w.heap.size :: L).2 ⟨f1, f2, rfl, h1, h2⟩, hg'⟩
  have hl := hh3.blk
  have hend := run_endLoop (P := c.P) hl hst
  have hh4 := (hh3.set (w' := w3.putObj (w.heap.size + 1) _) (o' := .loop { { r with state := st, pending := j } with state := .exhausted }) rfl).drop.join hsb
  obtain ⟨fr', w', ht, hs⟩ := hk j L g' w.heap.size hle' hQ (hle.trans hle') tmps _ hfit (by simpa using hh4) cs
  refine ⟨fr', w', ht, ?_⟩
  have henter := stepR_rangeFunc (P := c.P) (b := c.base) (a := ⟨tmps, D⟩) (k := k) (cs := cs) (w := w) (g := fx) (ps := ps) (assign := assign) (body := body) hen
    (d := { target := .fn (.func f) cl.toArray, args := #[.func (.yield (w.heap.size + 1)) #[] #[]] }) (w₁' := w2) (f := f) (args := (.func (.yield (w.heap.size + 1)) #[] #[] :: cl).toArray) (w₂ := w2)
    (by simp only [resolve, hfx]; simp [go_sem, Act.eval]) (by simp only [invoke]; rw [show (#[.func (.yield (w.heap.size + 1)) #[] #[]] : Array Value) ++ cl.toArray = (.func (.yield (w.heap.size + 1)) #[] #[] :: cl).toArray by simp]; exact hF.run _ _)
  refine .head henter (Steps.trans hcomes (.head ?_ (.head (stepR_endRangeFunc hend) hs)))
  rw [← finish_atR_inRangeFunc (w.heap.size + 1) v]
  exact step_leave_returned hleave

/-- An iterator: it hands all elements to what it is called with, in order, until that one has enough. -/
def Iter (P : Program) (f : Nat) (cl : List Value) (Own : List HProp) (g0 : Img) {α : Type} (enc : α → Img → List Value → Prop) (all : List α) : Prop :=
  ∀ (yf : Go.Fn) (ya yc : Array Value) (J : List α → Img → HProp) (Jx : Img → HProp) (g : Img), Le g0 g →
    (∀ pre x post g1 vs, all = pre ++ x :: post → Le g g1 → enc x g1 vs → Cv P (.func yf ya yc) vs (J pre g1 :: Own) g1 (fun v own' g2 => (v = .bool true ∧ own' = J (pre ++ [x]) g2 :: Own) ∨ (v = .bool false ∧ own' = Jx g2 :: Own))) →
    (∀ pre g1 g2, Le g1 g2 → ∀ fr, J pre g1 fr → J pre g2 fr) → (∀ g1 g2, Le g1 g2 → ∀ fr, Jx g1 fr → Jx g2 fr) →
    ∀ F, Fc P f (.func yf ya yc :: cl).toArray (J [] g :: Own) F g (fun _ own' g' => own' = J all g' :: Own ∨ own' = Jx g' :: Own)
theorem Fc.weak {P : Program} {f : FuncId} {args : Array Value} {F : Frag} {p q : HProp} {Q : Value → List HProp → Img → Prop} (hpq : ∀ fr, p fr → q fr) (h : Fc P f args (q :: own) F g Q) : Fc P f args (p :: own) F g Q :=
  fun w hh => h w (hh.weak hpq)
theorem Cv.unstar {P : Program} {fv : Value} {args : List Value} {L : List HProp} {Q : Value → List HProp → Img → Prop} (h : Cv P fv args (L ++ own) g Q) : Cv P fv args (star L :: own) g Q :=
  fun F w hh => h F w hh.unstar
theorem Fc.post {P : Program} {f : FuncId} {args : Array Value} {F : Frag} {Q Q' : Value → List HProp → Img → Prop} (h : Fc P f args own F g Q) (hq : ∀ v own' g', Le g g' → Q v own' g' → ∃ own2, Q' v own2 g' ∧ ∀ F w, Holds own' F g' w → Holds own2 F g' w) : Fc P f args own F g Q' :=
  fun w hw => (h w hw).mono fun _ _ ⟨v, own', g', he, hle, hQ, hh⟩ => by
    obtain ⟨own2, hQ2, hc⟩ := hq _ _ _ hle hQ
    exact ⟨v, own2, g', he, hle, hQ2, hc _ _ hh⟩
theorem Fc.toStar {P : Program} {f : FuncId} {args : Array Value} {F : Frag} {L : List HProp} {Q : Value → List HProp → Img → Prop} (h : Fc P f args (star L :: own) F g Q) : Fc P f args (L ++ own) F g Q :=
  fun w hh => h w hh.toStar

/-- What a round leaves. -/
def rndPost {α : Type} (l : Nat) (r : Loop) (J : List α → Img → HProp) (X : Code → Img → HProp) (pre : List α) (Own : List HProp) (v : Value) (own' : List HProp) (g2 : Img) : Prop :=
  (v = .bool true ∧ own' = lp l r .ready none :: J pre g2 :: Own) ∨ (∃ code, v = .bool false ∧ own' = lp l r .done (some code) :: X code g2 :: Own)
theorem R.rangeIter {fx : Operand} {ts : List Nat} {ps : Array Tmp} {assign body : Code} {f : Nat} [hF : CF c.P f] {cl : List Value} {α : Type} {enc : α → Img → List Value → Prop} {all : List α} {Own B : List HProp}
    (J : List α → Img → HProp) (X : Code → Img → HProp) (hro : c.ro = none) (hf : ev e fx = some (.func (.func f) #[] cl.toArray)) (hit : Iter c.P f cl Own g enc all) (hts : ps = ts.toArray)
    (hps : ∀ x g1 vs, enc x g1 vs → vs.length = ts.length) (hN : (ts.all fun t => Nat.blt t c.N) = true)
    (hJ : ∀ pre g1 g2, Le g1 g2 → ∀ fr, J pre g1 fr → J pre g2 fr) (hX : ∀ code g1 g2, Le g1 g2 → ∀ fr, X code g1 fr → X code g2 fr)
    (hp : own.Perm (J [] g :: (Own ++ B)))
    (hbody : ∀ pre x post g1 vs, all = pre ++ x :: post → Le g g1 → enc x g1 vs → ∀ l r F, R (rndCx c.P c.fn l c.N F g1 (rndPost l r J X (pre ++ [x]) Own)) [.code assign, .beginRound, .code body] [] (putL ts vs e) (lp l r .ready none :: J pre g1 :: Own) g1)
    (hdone : ∀ r0 g', Le g g' → R c k (mark r0 :: D) e (mk r0 :: J all g' :: (Own ++ B)) g')
    (hjump : ∀ r0 code g', Le g g' → R c (.code code :: k) (mark r0 :: D) e (mk r0 :: X code g' :: (Own ++ B)) g') :
    R c (.code (.rangeFunc fx ps assign body) :: k) D e own g := by
  refine R.rangeFunc (A := J [] g :: Own) (B := B) (Own := Own) (Q := fun j L g' => (j = none ∧ L = [J all g']) ∨ ∃ code, j = some code ∧ L = [X code g']) hro hf (by simpa using hp) ?_ ?_
  · intro l r0 r hfn hfit hpar hasg hbd F
    have key := hit (.yield l) #[] #[] (fun pre g1 => star [lp l r .ready none, mk r0, J pre g1]) (fun g1 fr => ∃ code, Sat [lp l r .done (some code), mk r0, X code g1] fr) g (Le.refl g) ?_ ?_ ?_ F
    · refine (Fc.toStar (L := [lp l r .ready none, mk r0, J [] g]) key).post ?_
      rintro v own' g' hle (rfl | rfl)
      · exact ⟨_, rfl, fun F w hh => hh.weak fun fr hs => ⟨none, .ready, _, by simp, .inl ⟨rfl, rfl⟩, hs⟩⟩
      · exact ⟨_, rfl, fun F w hh => hh.weak fun fr ⟨code, hs⟩ => ⟨some code, .done, _, by simp, .inr ⟨code, rfl, rfl⟩, hs⟩⟩
    · intro pre x post g1 vs hall hle henc
      refine Cv.unstar (Cv.perm (own' := lp l r .ready none :: (J pre g1 :: Own ++ [mk r0])) ?_ (Cv.frame (B := [mk r0]) (Cv.yield (l := l) (N := c.N) (r := r) (ts := ts) (e := e) (pe := none) (Post := rndPost l r J X (pre ++ [x]) Own) hfit (hpar.trans hts) (hps x g1 vs henc) hN ?_) ?_))
      · simp only [List.cons_append, List.nil_append]
        exact List.Perm.cons _ ((List.perm_append_comm (l₁ := [mk r0]) (l₂ := J pre g1 :: Own)))
      · intro F
        have := hbody pre x post g1 vs hall hle henc l r F
        rw [hfn, hasg, hbd]
        exact this
      · rintro v own' g2 _ (⟨rfl, rfl⟩ | ⟨code, rfl, rfl⟩)
        · refine ⟨_, .inl ⟨rfl, rfl⟩, fun F w hh => Holds.toStar (L := [lp l r .ready none, mk r0, J (pre ++ [x]) g2]) (hh.perm ?_)⟩
          simp only [List.cons_append, List.nil_append]
          exact List.Perm.cons _ ((List.perm_append_comm (l₁ := J (pre ++ [x]) g2 :: Own) (l₂ := [mk r0])))
        · refine ⟨_, .inr ⟨rfl, rfl⟩, fun F w hh => Holds.weak (p := star [lp l r .done (some code), mk r0, X code g2]) (fun fr hs => ⟨code, hs⟩) (Holds.toStar (L := [lp l r .done (some code), mk r0, X code g2]) (hh.perm ?_))⟩
          simp only [List.cons_append, List.nil_append]
          exact List.Perm.cons _ ((List.perm_append_comm (l₁ := X code g2 :: Own) (l₂ := [mk r0])))
    · rintro pre g1 g2 hle fr ⟨f1, f2, rfl, h1, f3, f4, rfl, h2, f5, f6, rfl, h3, h4⟩
      exact ⟨f1, _, rfl, h1, f3, _, rfl, h2, f5, f6, rfl, hJ pre g1 g2 hle _ h3, h4⟩
    · rintro g1 g2 hle fr ⟨code, f1, f2, rfl, h1, f3, f4, rfl, h2, f5, f6, rfl, h3, h4⟩
      exact ⟨code, f1, _, rfl, h1, f3, _, rfl, h2, f5, f6, rfl, hX code g1 g2 hle _ h3, h4⟩
  · rintro j L g' r0 hle (⟨rfl, rfl⟩ | ⟨code, rfl, rfl⟩)
    · exact hdone r0 g' hle
    · exact hjump r0 code g' hle

theorem R.weakT {p q : HProp} {B : List HProp} (ht : Take p own B) (hpq : ∀ fr, p fr → q fr) (h : R c k D e (q :: B) g) : R c k D e own g :=
  fun hle tmps w hf hh => h hle tmps w hf ((hh.perm ht.perm).weak hpq)
/-- The end of a function without results. -/
theorem R.endK {P : Program} {f : FuncId} {fn : Func} {N : Nat} {F : Frag} {g0 : Img} {Post : Value → List HProp → Img → Prop} {A B : List HProp}
    (hf : P.funcs[f]? = some fn) (hr : fn.results = #[]) (hp : Pick own A B) (hP : Le g0 g → Post (packed []) A g) : R (fnCx P f N F g0 Post) [] [] e own g := by
  intro hle tmps w hfit hh cs
  refine ⟨{ (fnCx P f N F g0 Post).fr tmps [] [] with mode := .returning }, w, ⟨packed [], A, g, hle, hP hle, hh.pick hp, rfl, rfl, rfl, rfl, fn, hf, ?_⟩, .one (stepR_end rfl)⟩
  show (results fn tmps).run P w = .ok (packed []) w
  rw [results_eq, hr]
  simp [packed]
/-! ### Leaving with a mark -/
theorem R.retM {P : Program} {f : FuncId} {fn : Func} {N r0 : Nat} {F : Frag} {g0 : Img} {Post : Value → List HProp → Img → Prop} {rs : List ResultVar} {vs : List Value} {A B A2 B2 : List HProp}
    (hf : P.funcs[f]? = some fn) (hr : fn.results = rs.toArray) (hp : Pick own (mk r0 :: A) B) (hresA : Res P e A g rs vs) (hp2 : Pick A A2 B2) (hP : Le g0 g → Post (packed vs) A2 g) :
    R (fnCx P f N F g0 Post) (.code .ret :: k) [mark r0] e own g := by
  intro hle tmps w hfit hh cs
  have hh1 := hh.pick hp
  have hk := run_takeDeferred (P := P) hh1.blk
  have hh2 := (hh1.set (w' := w.putObj r0 (.deferred none)) (o' := .deferred none) rfl).drop
  refine ⟨{ (fnCx P f N F g0 Post).fr tmps (.code .ret :: k) [mark r0] with mode := .returning, defers := [] ++ [] }, w.putObj r0 (.deferred none), ⟨packed vs, A2, g, hle, hP hle, hh2.pick hp2, rfl, rfl, rfl, rfl, fn, hf, ?_⟩,
    .head (stepR_ret rfl) (.one (step_collected (fr := { (fnCx P f N F g0 Post).fr tmps (.code .ret :: k) [mark r0] with mode := .returning }) (by simp) rfl rfl hk))⟩
  have : (results fn tmps).run P (w.putObj r0 (.deferred none)) = .ok (packed vs) (w.putObj r0 (.deferred none)) := by
    rw [results_eq, hr, List.mapM_toArray]
    simp only [Sem.run_bind, Sem.run_map]
    rw [mapM_list P tmps (w.putObj r0 (.deferred none)) rs vs hfit hh2 hresA]
    simp only [Result.andThen_ok, Sem.run_pure]
    match vs with
    | [] => rfl
    | [v] => rfl
    | _ :: _ :: _ => simp [packed]
  exact this
end Go.Zed
