/- Regions that draw their order: two effects of which either may come first. -/
import Derived.Test.YtemgdeknjnlifaaZedF
namespace Go.Zed
open Go
variable {c : Cx} {l : List Oper} {fl : List (Nat × Obj)} {lk : List (Nat × List HProp)} {k : List Item} {D : List Deferred} {e : List (Nat × Value)} {own : List HProp} {g : Img}

theorem RD.effK {i : Nat} {keep rest : List Nat} {B : List RStep} {op : Op} {ty : TypeId} {e' : Value → List (Nat × Value)} (hl : ∀ p ∈ lk, p.1 ∉ rest ∧ p.1 < l.length)
    (h3 : ((List.range l.length).all fun j => anc l i j || keep.contains j || rest.contains j) = true) (hcB : chk l (fl.map (·.1)) B = true) (hnB : (idx B).Nodup) (hBe : idx B = rest.erase i)
    (h : OpOk c D op ty e own g (fun v own' g' => Locks own' (keepL keep lk) ∧ RD c l fl B (keepL keep lk) k D (e' v) own' g')) :
    OpOk c D op ty e own g (fun v own' g' => Locks own' (unlock l i lk) ∧ RG c l fl (rest.erase i) (unlock l i lk) k D (e' v) own' g') := by
  intro hle F tmps w hf hh ops i' rest' k' cs o' ho' hop hty hw
  obtain ⟨v, own', g', w', hle', ⟨hlk, hK⟩, hh', hst⟩ := h hle F tmps w hf hh ops i' rest' k' cs o' ho' hop hty hw
  have hsub : ∀ p ∈ unlock l i lk, p ∈ keepL keep lk := by
    intro p hp
    simp only [unlock, List.mem_filter, Bool.not_eq_true'] at hp
    have hpl := hl p hp.1
    have := (List.all_eq_true.1 h3) p.1 (by simpa using hpl.2)
    simp only [hp.2, Bool.false_or, Bool.or_eq_true, List.contains_iff_mem] at this
    simp only [keepL, List.mem_filter]
    refine ⟨hp.1, ?_⟩
    rcases this with h | h
    · simpa using h
    · exact absurd h hpl.1
  have hlk2 : Locks own' (unlock l i lk) := by
    have hall := hlk.all
    have key : ∀ lk2 : List (Nat × List HProp), (∀ p ∈ lk2, p ∈ keepL keep lk) → (∀ p ∈ lk2, ∃ r, Pick own' p.2 r) → Locks own' lk2 := by
      intro lk2
      induction lk2 with
      | nil => intro _ _; exact .nil
      | cons q lk2 ih =>
        intro hs hp
        obtain ⟨r, hr⟩ := hp q (by simp)
        exact .cons hr (ih (fun p hp => hs p (by simp [hp])) (fun p hp' => hp p (by simp [hp'])))
    refine key _ hsub fun p hp => ?_
    have : ∀ {lk3 : List (Nat × List HProp)}, Locks own' lk3 → p ∈ lk3 → ∃ r, Pick own' p.2 r := by
      intro lk3 h3
      induction h3 with
      | nil => intro hm; cases hm
      | cons hpk _ ih =>
        intro hm
        simp only [List.mem_cons] at hm
        rcases hm with rfl | hm
        · exact ⟨_, hpk⟩
        · exact ih hm
    exact this hlk (hsub p hp)
  refine ⟨v, own', g', w', hle', ⟨hlk2, ?_⟩, hh', hst⟩
  rw [← hBe]
  refine RG.lkmono hsub hlk (hK hcB hnB ?_)
  intro p hp
  simp only [keepL, List.mem_filter] at hp
  have := hl p hp.1
  exact ⟨fun hm => this.1 (by rw [hBe] at hm; exact List.mem_of_mem_erase hm), this.2⟩

def listed (l : List Oper) (i : Nat) (keep rest : List Nat) : Bool := (List.range l.length).all fun j => anc l i j || keep.contains j || rest.contains j
/-- What is asked of two effects. -/
def twoB (l : List Oper) (fx : List Nat) (i1 i2 : Nat) (k1 k2 : List Nat) (d1 d2 : Option Nat) (A B : List RStep) : Bool :=
  let rest := i1 :: idx A
  rest.contains i2 && !fx.contains i1 && !fx.contains i2 && rest.all (fun m => m == i1 || m == i2 || anc l m i1 || anc l m i2 || fx.contains m) &&
    d1.all (fun d => lateE l rest i1 d) && d2.all (fun d => lateE l rest i2 d) && listed l i1 k1 rest && listed l i2 k2 rest && decide (idx B = rest.erase i2) && chk l fx A && chk l fx B && decide (idx B).Nodup

theorem RD.two {i1 i2 : Nat} {k1 k2 : List Nat} {A B : List RStep} {o1 o2 : Oper} (ho1 : l[i1]? = some o1) (ho2 : l[i2]? = some o2) (hdN1 : (o1.dst.all fun d => Nat.blt d c.N) = true) (hdN2 : (o2.dst.all fun d => Nat.blt d c.N) = true)
    (hg1 : o1.guard = none) (hg2 : o2.guard = none) (hB : twoB l (fl.map (·.1)) i1 i2 k1 k2 o1.dst o2.dst A B = true)
    (h1 : OpOk c D o1.op o1.type e own g (fun v own' g' => Locks own' (keepL k1 lk) ∧ RD c l fl A (keepL k1 lk) k D (putE o1.dst v e) own' g'))
    (h2 : OpOk c D o2.op o2.type e own g (fun v own' g' => Locks own' (keepL k2 lk) ∧ RD c l fl B (keepL k2 lk) k D (putE o2.dst v e) own' g')) : RD c l fl (⟨i1, 3, []⟩ :: A) lk k D e own g := by
  intro hc hn hl
  simp only [twoB, listed, Bool.and_eq_true, decide_eq_true_eq, Bool.not_eq_true'] at hB
  obtain ⟨⟨⟨⟨⟨⟨⟨⟨⟨⟨⟨b1, b2⟩, b3⟩, b4⟩, b5⟩, b6⟩, b7⟩, b8⟩, b9⟩, b10⟩, b11⟩, b12⟩ := hB
  have hidx : idx (⟨i1, 3, []⟩ :: A) = i1 :: idx A := rfl
  rw [hidx] at hn hl ⊢
  have hA : idx A = (i1 :: idx A).erase i1 := by simp
  refine .effs [i1, i2] (fun i hi => ?_) (by simp) (fun m hm => ?_) (fun i hi => ?_)
  · simp only [List.mem_cons, List.not_mem_nil, or_false] at hi
    rcases hi with rfl | rfl
    · exact ⟨by simp, by simpa using b2⟩
    · exact ⟨by simpa using b1, by simpa using b3⟩
  · have := (List.all_eq_true.1 b4) m hm
    simp only [Bool.or_eq_true, beq_iff_eq, List.contains_iff_mem] at this
    rcases this with (((h | h) | h) | h) | h
    · exact .inl (by simp [h])
    · exact .inl (by simp [h])
    · exact .inr (.inl ⟨i1, by simp, h⟩)
    · exact .inr (.inl ⟨i2, by simp, h⟩)
    · exact .inr (.inr h)
  · simp only [List.mem_cons, List.not_mem_nil, or_false] at hi
    rcases hi with rfl | rfl
    · exact ⟨o1, ho1, hdN1, b5, .inl hg1, RD.effK (e' := fun v => putE o1.dst v e) hl b7 b10 (List.nodup_cons.1 hn).2 hA h1⟩
    · exact ⟨o2, ho2, hdN2, b6, .inl hg2, RD.effK (e' := fun v => putE o2.dst v e) hl b8 b11 b12 b9 h2⟩

/-- Two effects that lay something. -/
theorem RD.two2 {i1 i2 : Nat} {k1 k2 : List Nat} (B : List RStep) {A : List RStep} {d1 d2 : Nat} {op1 op2 : Op} {ty1 ty2 : TypeId} {p1 p2 : String} {a1 a2 : Array Edge} (ho1 : l[i1]? = some ⟨some d1, op1, ty1, p1, a1, none⟩) (ho2 : l[i2]? = some ⟨some d2, op2, ty2, p2, a2, none⟩)
    (hd1 : Nat.blt d1 c.N = true) (hd2 : Nat.blt d2 c.N = true) (hB : twoB l (fl.map (·.1)) i1 i2 k1 k2 (some d1) (some d2) A B = true)
    (h1 : OpOk c D op1 ty1 e own g (fun v own' g' => Locks own' (keepL k1 lk) ∧ RD c l fl A (keepL k1 lk) k D ((d1, v) :: e) own' g'))
    (h2 : OpOk c D op2 ty2 e own g (fun v own' g' => Locks own' (keepL k2 lk) ∧ RD c l fl B (keepL k2 lk) k D ((d2, v) :: e) own' g')) : RD c l fl (⟨i1, 3, []⟩ :: A) lk k D e own g :=
  .two ho1 ho2 (by simpa using hd1) (by simpa using hd2) rfl rfl hB h1 h2

section
variable {ty : TypeId} {K : Value → List HProp → Img → Prop} {x : Operand} {b off T t : Nat} {cs : List Value} {r : List HProp} {v : Value}
/-- A load that stands where an effect stands. -/
theorem OpOk.ld [hT : TA c.P t false] (hx : ev e x = some (.pointer (some ⟨b, off, none⟩))) [ht : Tk b own T cs r] [hw : Win cs off 1 [v]] (hK : K v own g) : OpOk c D (.load t x) ty e own g K :=
  .of_quiet rfl ht.take.perm (.loadOwn hx hw) hK
theorem OpOk.ldA [hT : TA c.P t true] {sz by_ : Nat} {zl vs : List Value} [hS : TY c.P t sz by_ zl] (hx : ev e x = some (.pointer (some ⟨b, off, none⟩))) [ht : Tk b own T cs r] [hw : Win cs off sz vs] (hK : K (.agg vs.toArray) own g) : OpOk c D (.load t x) ty e own g K :=
  .of_quiet rfl ht.take.perm (.loadOwnA hx hw) hK
end
/-- What a function only reads may be owned: it comes back. -/
theorem Fc.borrow {P : Program} {f : FuncId} {args : Array Value} {F : Frag} {b T : Nat} {cs : List Value} {Q : Value → List HProp → Prop}
    (h : ∀ g1, Le g g1 → Mem g1 b 0 cs → Fc P f args own F g1 (fun v own' g' => g' = g1 ∧ Q v own')) : Fc P f args (cel b T cs :: own) F g (fun v own' g' => g' = g ∧ ∃ o2, own' = cel b T cs :: o2 ∧ Q v o2) := by
  intro w hw
  obtain ⟨hf, hle⟩ := hw.freeze
  have hgb : g b = none := by
    obtain ⟨fr, ⟨f1, f2, rfl, rfl, _⟩, hg⟩ := hw
    exact (hg.2.1 (b, .cells cs.toArray T (0, 0)) (by simp)).2
  refine (h _ hle ⟨cs.toArray, T, (0, 0), by simp, fun j v hv => by simpa using hv⟩ w hf).mono ?_
  rintro e w' ⟨v, own', g', rfl, hle', ⟨rfl, hQ⟩, hh⟩
  refine ⟨v, _, g, rfl, Le.refl g, ⟨rfl, own', rfl, hQ⟩, ?_⟩
  obtain ⟨fr, hs, hg⟩ := hh
  refine ⟨(b, .cells cs.toArray T (0, 0)) :: fr, ⟨[(b, .cells cs.toArray T (0, 0))], fr, rfl, rfl, hs⟩, fun c o hc => hg.1 c o (hle.1 c o hc), fun p hp => ?_, ?_, hg.2.2.2⟩
  · simp only [List.cons_append, List.mem_cons] at hp
    rcases hp with rfl | hp
    · exact ⟨hg.1 b _ (by simp), hgb⟩
    · have := hg.2.1 p hp
      refine ⟨this.1, ?_⟩
      have h2 := this.2
      by_cases he : p.1 = b
      · simp [he] at h2
      · simpa [he] using h2
  · simp only [List.cons_append, List.map_cons, List.nodup_cons]
    refine ⟨fun hm => ?_, hg.2.2.1⟩
    obtain ⟨p, hp, he⟩ := List.mem_map.1 hm
    have := (hg.2.1 p hp).2
    rw [he] at this
    simp at this
/-- A call that gives a value and leaves all else as it is. -/
theorem OpOk.pure {ty : TypeId} {K : Value → List HProp → Img → Prop} {fx : Operand} {f : Nat} {fl cl vs : List Value} {xs : List Operand} {ats : Array TypeId} {u : Value} [hF : CF c.P f]
    (hf : ev e fx = some (.func (.func f) fl.toArray cl.toArray)) (hx : evs e xs = some vs) (hc : ∀ F, Fc c.P f (fl ++ (vs ++ cl)).toArray [] F g (fun v own' g' => own' = [] ∧ g' = g ∧ v = u)) (hK : K u own g) :
    OpOk c D (.call { callee := .value fx, args := xs.toArray, argTypes := ats }) ty e own g K := by
  refine OpOk.callV hf hx hc .nil ?_
  rintro v own' g' _ ⟨rfl, rfl, rfl⟩
  exact hK
theorem QOk.ldM0 {P : Program} {ty : TypeId} {x : Operand} {b off t : Nat} {vs : List Value} {v : Value} [hT : TA P t false] (hx : ev e x = some (.pointer (some ⟨b, off, none⟩))) (hm : Mem g b 0 vs) [hw : Win vs off 1 [v]] : QOk P (.load t x) ty e [] g v :=
  .loadMem0 hx (by have := hm.sub hw; rwa [Nat.zero_add] at this)
theorem QOk.ldM0A {P : Program} {ty : TypeId} {x : Operand} {b off t sz by_ : Nat} {zl vs us : List Value} [hT : TA P t true] [hS : TY P t sz by_ zl] (hx : ev e x = some (.pointer (some ⟨b, off, none⟩))) (hm : Mem g b 0 vs) [hw : Win vs off sz us] : QOk P (.load t x) ty e [] g (.agg us.toArray) :=
  .loadMemA hx (by have := hm.sub hw; rwa [Nat.zero_add] at this) hw.get.1
end Go.Zed
