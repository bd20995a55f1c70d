/- Entailment of what is owned; deep values: data that hold slices of data, in any depth, owned or lying still. -/
import Derived.Test.YtemgdeknjnlifaaZedN
namespace Go.Zed
open Go
variable {c : Cx} {k k' : List Item} {D D' : List Deferred} {e e' : List (Nat × Value)} {own own' : List HProp} {g g' : Img} {ty : TypeId} {K : Value → List HProp → Img → Prop}
/-! ### Entailment -/
def Ent (A B : List HProp) : Prop := ∀ fr, Sat A fr → ∃ fr', fr.Perm fr' ∧ Sat B fr'
section
variable {A B C A' B' L : List HProp} {p q : HProp}
theorem Ent.refl (A : List HProp) : Ent A A := fun fr h => ⟨fr, .refl _, h⟩
theorem Ent.trans (h1 : Ent A B) (h2 : Ent B C) : Ent A C := fun fr h => by
  obtain ⟨f1, p1, s1⟩ := h1 fr h
  obtain ⟨f2, p2, s2⟩ := h2 f1 s1
  exact ⟨f2, p1.trans p2, s2⟩
theorem Ent.perm (hp : A.Perm B) : Ent A B := fun _ h => Sat.perm hp h
theorem Ent.append (h1 : Ent A B) (h2 : Ent A' B') : Ent (A ++ A') (B ++ B') := fun fr h => by
  obtain ⟨f1, f2, rfl, s1, s2⟩ := Sat.append.1 h
  obtain ⟨f3, p1, t1⟩ := h1 f1 s1
  obtain ⟨f4, p2, t2⟩ := h2 f2 s2
  exact ⟨f3 ++ f4, p1.append p2, Sat.append.2 ⟨f3, f4, rfl, t1, t2⟩⟩
theorem Ent.frame (h : Ent A B) (C : List HProp) : Ent (A ++ C) (B ++ C) := h.append (.refl C)
theorem Ent.cons (p : HProp) (h : Ent A B) : Ent (p :: A) (p :: B) := Ent.append (A := [p]) (B := [p]) (.refl _) h
theorem Ent.head (h : Ent [p] B) : Ent (p :: C) (B ++ C) := Ent.frame (A := [p]) h C
theorem Ent.unstar : Ent [star L] L := fun fr h => by
  obtain ⟨f1, f2, rfl, h1, rfl⟩ := h
  exact ⟨f1, by simp, h1⟩
theorem Ent.toStar : Ent L [star L] := fun fr h => ⟨fr, .refl _, fr, [], by simp, h, rfl⟩
theorem Ent.weak (h : ∀ fr, p fr → q fr) : Ent [p] [q] := fun fr hs => by
  obtain ⟨f1, f2, rfl, h1, rfl⟩ := hs
  exact ⟨_, .refl _, f1, [], rfl, h f1 h1, rfl⟩
theorem Ent.swap : Ent (p :: q :: A) (q :: p :: A) := .perm (.swap _ _ _)
/-- An atom that is a list of atoms. -/
theorem Ent.ofSat (h : ∀ fr, p fr → Sat L fr) : Ent [p] L := (Ent.weak (q := star L) h).trans .unstar
theorem Ent.toAtom (h : ∀ fr, Sat L fr → p fr) : Ent L [p] := Ent.toStar.trans (.weak (p := star L) h)
theorem Holds.ent {F : Frag} {w : World} (h : Ent A B) (hh : Holds A F g w) : Holds B F g w := by
  obtain ⟨fr, hs, hg⟩ := hh
  obtain ⟨fr', hp, hs'⟩ := h fr hs
  exact ⟨fr', hs', hg.perm (hp.append_right _)⟩
theorem R.ent (h : Ent own own') (H : R c k D e own' g) : R c k D e own g := fun hle tmps w hf hh => H hle tmps w hf (hh.ent h)
theorem Frz.ent (h : Ent A B) (H : Frz A g) : Frz B g := by
  obtain ⟨fr, hs, hm⟩ := H
  obtain ⟨fr', hp, hs'⟩ := h fr hs
  exact ⟨fr', hs', fun p hp' => hm p (hp.mem_iff.2 hp')⟩
theorem OpOk.quietE {op : Op} {v : Value} {at_ r : List HProp} (hdef : quietly op = true) (he : Ent own (at_ ++ r)) (h : QOk c.P op ty e at_ g v) (hK : K v own g) : OpOk c D op ty e own g K := by
  refine .of_run (fun cl he => by subst he; cases hdef) fun _ F tmps w hf hh => ⟨v, own, g, w, Le.refl g, hK, hh, fun o ho ht => .inl ?_⟩
  obtain ⟨F', hA⟩ := (hh.ent he).front
  exact h tmps D F' w hf hA o ho ht
end
/-! ### Slices -/
theorem Ent.closeSl {T sz b n cap : Nat} {es : List (List Value)} {sp : List Value} (hn : n = es.length) (hl : ∀ x ∈ es, x.length = sz) (hc : n ≤ cap) (hm : cap ≤ maxLen) (hsp : sp.length = (cap - n) * sz) :
    Ent [cel b T (es.flatten ++ sp)] [sl T sz (some ⟨b, 0, none⟩) n cap es] := .weak fun fr h => ⟨hn, hl, .inr ⟨b, sp, rfl, hc, hm, hsp, h⟩⟩
theorem Ent.nilSl (T sz : Nat) : Ent [] [sl T sz none 0 0 []] := fun fr h => by
  obtain rfl : fr = [] := h
  exact ⟨[], .refl _, [], [], rfl, ⟨rfl, by simp, .inl ⟨rfl, rfl, rfl, rfl⟩⟩, rfl⟩
/-! ### Deep values -/
inductive DV where
  | at (v : Value)
  | sl (T sz : Nat) (a : Option Addr) (n cap : Nat) (es : List (List DV))
@[reducible] def DV.v : DV → Value
  | .at v => v
  | .sl _ _ a n cap _ => .slice a n cap
@[reducible] def vals (l : List DV) : List Value := l.map DV.v
/-- A deep value that lies still. -/
inductive Rp (g : Img) : DV → Prop
  | at (v : Value) (h : v.oneCell' = true) : Rp g (.at v)
  | sl {T sz n cap : Nat} {a : Option Addr} {es : List (List DV)} (hs : Sl g sz a n (es.map vals)) (hn : es.length ≤ 1000000) (hq : ∀ x ∈ es, ∀ d ∈ x, Rp g d) : Rp g (.sl T sz a n cap es)
theorem Rp.mono {d : DV} (h : Rp g d) (hl : Le g g') : Rp g' d := by
  induction h with
  | «at» v h => exact .at v h
  | sl hs hn _ ih => exact .sl (hs.mono hl) hn ih
theorem Rp.one {d : DV} (h : Rp g d) : d.v.oneCell' = true := by
  cases h with
  | «at» v h => exact h
  | sl => rfl
@[reducible] def RpL (g : Img) (l : List DV) : Prop := ∀ d ∈ l, Rp g d
theorem RpL.one {l : List DV} (h : RpL g l) : ∀ u ∈ vals l, u.oneCell' = true := by
  intro u hu
  obtain ⟨d, hd, rfl⟩ := List.mem_map.1 hu
  exact (h d hd).one
theorem RpLL.one {es : List (List DV)} (h : ∀ x ∈ es, ∀ d ∈ x, Rp g d) : ∀ u ∈ (es.map vals).flatten, u.oneCell' = true := by
  intro u hu
  simp only [List.mem_flatten, List.mem_map] at hu
  obtain ⟨x, ⟨y, hy, rfl⟩, hu⟩ := hu
  exact RpL.one (h y hy) u hu
theorem RpL.mono {l : List DV} (h : RpL g l) (hl : Le g g') : RpL g' l := fun d hd => (h d hd).mono hl
mutual
/-- A deep value that is owned; with m, parts of it may lie still. -/
def DV.own (m : Option Img) : DV → HProp
  | .at v => fun fr => fr = [] ∧ v.oneCell' = true
  | .sl T sz a n cap es => fun fr => (fr = [] ∧ ∃ g, m = some g ∧ Rp g (.sl T sz a n cap es)) ∨ (es.length ≤ 1000000 ∧ Sat [Zed.sl T sz a n cap (es.map vals), ownLL m es] fr)
def ownL (m : Option Img) : List DV → HProp
  | [] => fun fr => fr = []
  | d :: ds => fun fr => Sat [d.own m, ownL m ds] fr
def ownLL (m : Option Img) : List (List DV) → HProp
  | [] => fun fr => fr = []
  | x :: xs => fun fr => Sat [ownL m x, ownLL m xs] fr
end
section
variable {m : Option Img} {d : DV} {x y l : List DV} {es : List (List DV)} {A B : List HProp}
theorem Ent.ownNil : Ent [ownL m []] [] := .ofSat fun fr h => by rw [ownL] at h; exact h
theorem Ent.ownCons : Ent [ownL m (d :: l)] [d.own m, ownL m l] := .ofSat fun fr h => by rw [ownL] at h; exact h
theorem Ent.toOwnNil : Ent [] [ownL m []] := .toAtom fun fr h => by rw [ownL]; exact h
theorem Ent.toOwnCons : Ent [d.own m, ownL m l] [ownL m (d :: l)] := .toAtom fun fr h => by rw [ownL]; exact h
theorem Ent.ownLLNil : Ent [ownLL m []] [] := .ofSat fun fr h => by rw [ownLL] at h; exact h
theorem Ent.ownLLCons : Ent [ownLL m (x :: es)] [ownL m x, ownLL m es] := .ofSat fun fr h => by rw [ownLL] at h; exact h
theorem Ent.toOwnLLNil : Ent [] [ownLL m []] := .toAtom fun fr h => by rw [ownLL]; exact h
theorem Ent.toOwnLLCons : Ent [ownL m x, ownLL m es] [ownLL m (x :: es)] := .toAtom fun fr h => by rw [ownLL]; exact h
theorem Ent.ownAt {v : Value} : Ent [DV.own m (.at v)] [] := .ofSat fun fr h => by rw [DV.own] at h; exact h.1
theorem Ent.toOwnAt (v : Value) (hv : v.oneCell' = true) : Ent [] [DV.own m (.at v)] := .toAtom fun fr h => by rw [DV.own]; exact ⟨h, hv⟩
theorem Ent.ownSl {T sz n cap : Nat} {a : Option Addr} : Ent [DV.own none (.sl T sz a n cap es)] [Zed.sl T sz a n cap (es.map vals), ownLL none es] := .ofSat fun fr h => by
  rw [DV.own] at h
  rcases h with ⟨_, g, h, _⟩ | ⟨_, h⟩
  · cases h
  · exact h
theorem Ent.toOwnSl {T sz n cap : Nat} {a : Option Addr} (hn : es.length ≤ 1000000) : Ent [Zed.sl T sz a n cap (es.map vals), ownLL m es] [DV.own m (.sl T sz a n cap es)] := .toAtom fun fr h => by
  rw [DV.own]; exact .inr ⟨hn, h⟩
theorem Ent.still {g : Img} (h : Rp g d) : Ent [] [d.own (some g)] := .toAtom fun fr hs => by
  obtain rfl : fr = [] := hs
  cases h with
  | «at» v h => rw [DV.own]; exact ⟨rfl, h⟩
  | sl hs hn hq => rw [DV.own]; exact .inl ⟨rfl, _, rfl, .sl hs hn hq⟩
theorem Ent.stillL {g : Img} : ∀ {l : List DV}, RpL g l → Ent [] [ownL (some g) l]
  | [], _ => .toOwnNil
  | d :: l, h => ((Ent.still (h d (List.mem_cons_self ..))).append (Ent.stillL fun d hd => h d (List.mem_cons_of_mem _ hd))).trans .toOwnCons
/-- One row, taken out. -/
theorem Ent.ownLLAt : ∀ {es : List (List DV)} {i : Nat} {x : List DV}, es[i]? = some x → Ent [ownLL m es] [ownL m x, ownLL m (es.eraseIdx i)]
  | [], _, _, h => by simp at h
  | y :: es, 0, x, h => by
    obtain rfl : y = x := by simpa using h
    exact .ownLLCons
  | y :: es, i + 1, x, h => by
    refine Ent.ownLLCons.trans ((Ent.cons _ (Ent.ownLLAt (i := i) (by simpa using h))).trans ?_)
    exact Ent.swap.trans (Ent.cons _ .toOwnLLCons)
/-- One row, put back in. -/
theorem Ent.ownLLSet : ∀ {es : List (List DV)} {i : Nat} (y : List DV), i < es.length → Ent [ownL m y, ownLL m (es.eraseIdx i)] [ownLL m (es.set i y)]
  | [], _, _, h => by simp at h
  | x :: es, 0, y, _ => .toOwnLLCons
  | x :: es, i + 1, y, h => by
    refine (Ent.cons _ Ent.ownLLCons).trans (Ent.swap.trans ((Ent.cons _ (Ent.ownLLSet (i := i) y (by simpa using h))).trans ?_))
    exact .toOwnLLCons
theorem Ent.ownLLSnoc : ∀ {es : List (List DV)}, Ent [ownL m x, ownLL m es] [ownLL m (es ++ [x])]
  | [] => .toOwnLLCons
  | y :: es => by
    refine (Ent.cons _ Ent.ownLLCons).trans (Ent.swap.trans ((Ent.cons _ Ent.ownLLSnoc).trans ?_))
    exact .toOwnLLCons
end
mutual
theorem Ent.lend {g : Img} : ∀ (d : DV), Ent [d.own none] [d.own (some g)]
  | .at v => Ent.weak fun fr h => by rw [DV.own] at h ⊢; exact h
  | .sl T sz a n cap es => by
    intro fr h
    obtain ⟨f1, f2, rfl, h, rfl⟩ := h
    rw [DV.own] at h
    rcases h with ⟨_, g, h, _⟩ | ⟨hn, h⟩
    · cases h
    · obtain ⟨f3, p1, s1⟩ := Ent.cons (Zed.sl T sz a n cap (es.map vals)) (Ent.lendLL (g := g) es) _ h
      obtain ⟨f4, p2, s2⟩ := Ent.toOwnSl hn _ s1
      exact ⟨f4, by simpa using p1.trans p2, s2⟩
theorem Ent.lendL {g : Img} : ∀ (l : List DV), Ent [ownL none l] [ownL (some g) l]
  | [] => Ent.ownNil.trans .toOwnNil
  | d :: l => Ent.ownCons.trans ((Ent.append (A := [_]) (A' := [_]) (Ent.lend d) (Ent.lendL l)).trans .toOwnCons)
theorem Ent.lendLL {g : Img} : ∀ (l : List (List DV)), Ent [ownLL none l] [ownLL (some g) l]
  | [] => Ent.ownLLNil.trans .toOwnLLNil
  | d :: l => Ent.ownLLCons.trans ((Ent.append (A := [_]) (A' := [_]) (Ent.lendL d) (Ent.lendLL l)).trans .toOwnLLCons)
end
theorem Frz.two {p q : HProp} (h : Frz [p, q] g) : Frz [p] g ∧ Frz [q] g := Frz.cons h
mutual
theorem Frz.rp {m : Option Img} {g : Img} (hm : ∀ g0, m = some g0 → Le g0 g) : ∀ (d : DV), Frz [d.own m] g → Rp g d
  | .at v, h => by
    obtain ⟨fr, ⟨f1, f2, rfl, h, rfl⟩, hp⟩ := h
    rw [DV.own] at h
    exact .at v h.2
  | .sl T sz a n cap es, h => by
    obtain ⟨fr, ⟨f1, f2, rfl, h, rfl⟩, hp⟩ := h
    rw [DV.own] at h
    rcases h with ⟨_, g0, h0, h⟩ | ⟨hn, h⟩
    · exact h.mono (hm g0 h0)
    · obtain ⟨h1, h2⟩ := Frz.two (g := g) ⟨_, h, fun p hp' => hp p (by simpa using hp')⟩
      exact .sl h1.sl hn fun x hx => Frz.rpLL hm es h2 x hx
theorem Frz.rpL {m : Option Img} {g : Img} (hm : ∀ g0, m = some g0 → Le g0 g) : ∀ (l : List DV), Frz [ownL m l] g → RpL g l
  | [], _ => fun _ h => by cases h
  | d :: l, h => by
    obtain ⟨h1, h2⟩ := Frz.two (h.ent .ownCons)
    have i1 := Frz.rp hm d h1
    have i2 := Frz.rpL hm l h2
    exact fun u hu => (List.mem_cons.1 hu).elim (fun h => h ▸ i1) (i2 u)
theorem Frz.rpLL {m : Option Img} {g : Img} (hm : ∀ g0, m = some g0 → Le g0 g) : ∀ (l : List (List DV)), Frz [ownLL m l] g → ∀ x ∈ l, RpL g x
  | [], _ => fun _ h => by cases h
  | x :: l, h => by
    obtain ⟨h1, h2⟩ := Frz.two (h.ent .ownLLCons)
    have i1 := Frz.rpL hm x h1
    have i2 := Frz.rpLL hm l h2
    exact fun u hu => (List.mem_cons.1 hu).elim (fun h => h ▸ i1) (i2 u)
end
/-- What is owned lies still from now on. -/
theorem R.freezeAll {L : List HProp} (h : ∀ g', Le g g' → Frz L g' → R c k D e own g') : R c k D e (L ++ own) g := by
  intro hle tmps w hf hh
  obtain ⟨fr, hs, hg⟩ := hh
  obtain ⟨f1, f2, rfl, h1, h2⟩ := Sat.append.1 hs
  rw [List.append_assoc] at hg
  obtain ⟨k1, k2, k3⟩ := Good.frzF hg
  exact h _ k2 ⟨f1, h1, k3⟩ (hle.trans k2) tmps w hf ⟨f2, h2, k1⟩
theorem R.freezeD {m : Option Img} {l : List DV} (hm : ∀ g0, m = some g0 → Le g0 g) (h : ∀ g', Le g g' → RpL g' l → R c k D e own g') : R c k D e (ownL m l :: own) g :=
  R.freezeAll (L := [_]) fun g' hle hf => h g' hle (Frz.rpL (fun g0 h0 => (hm g0 h0).trans hle) l hf)
/-! ### What a deep value is, wherever it lies -/
mutual
def DV.sh : DV → DV
  | .at v => .at v
  | .sl _ sz _ _ _ es => .sl 0 sz none es.length 0 (shLL es)
def shL : List DV → List DV
  | [] => []
  | d :: l => d.sh :: shL l
def shLL : List (List DV) → List (List DV)
  | [] => []
  | x :: l => shL x :: shLL l
end
theorem shL_map : ∀ (l : List DV), shL l = l.map DV.sh
  | [] => by rw [shL]; rfl
  | t :: ts => by rw [shL, shL_map ts]; rfl
theorem shLL_map : ∀ (l : List (List DV)), shLL l = l.map shL
  | [] => by rw [shLL]; rfl
  | t :: ts => by rw [shLL, shLL_map ts]; rfl
theorem sh_at {d : DV} {v : Value} (h : d.sh = .at v) : d = .at v := by
  cases d with
  | «at» u => rw [DV.sh] at h; exact h
  | sl T sz a n cap es => rw [DV.sh] at h; cases h
theorem sh_sl {d : DV} {T sz n cap : Nat} {a : Option Addr} {es : List (List DV)} (h : d.sh = .sl T sz a n cap es) : ∃ T' a' n' cap' es', d = .sl T' sz a' n' cap' es' ∧ shLL es' = es ∧ es'.length = n := by
  cases d with
  | «at» u => rw [DV.sh] at h; cases h
  | sl T' sz' a' n' cap' es' =>
    rw [DV.sh] at h
    simp only [DV.sl.injEq] at h
    obtain ⟨_, rfl, _, h1, _, h2⟩ := h
    exact ⟨T', a', n', cap', es', rfl, h2, h1⟩
theorem shL_cons {x : List DV} {d : DV} {l : List DV} (h : shL x = d :: l) : ∃ u y, x = u :: y ∧ u.sh = d ∧ shL y = l := by
  cases x with
  | nil => rw [shL] at h; cases h
  | cons u y => rw [shL] at h; simp only [List.cons.injEq] at h; exact ⟨u, y, rfl, h.1, h.2⟩
theorem shL_nil {x : List DV} (h : shL x = []) : x = [] := by
  cases x with
  | nil => rfl
  | cons u y => rw [shL] at h; cases h
theorem shL_len {x y : List DV} (h : shL y = shL x) : y.length = x.length := by
  have := congrArg List.length h
  rwa [shL_map, shL_map, List.length_map, List.length_map] at this
theorem shLL_len {x y : List (List DV)} (h : shLL y = shLL x) : y.length = x.length := by
  have := congrArg List.length h
  rwa [shLL_map, shLL_map, List.length_map, List.length_map] at this
theorem sh_one : ∀ {d u : DV}, d.sh = u.sh → u.v.oneCell' = true → d.v.oneCell' = true
  | d, .at v, h, hu => by rw [DV.sh] at h; rw [sh_at h]; exact hu
  | d, .sl .., h, _ => by rw [DV.sh] at h; obtain ⟨_, _, _, _, _, rfl, _⟩ := sh_sl h; rfl
theorem shL_one : ∀ {x y : List DV}, shL y = shL x → (∀ u ∈ vals x, u.oneCell' = true) → (vals y).all Value.oneCell' = true
  | [], y, h, _ => by rw [shL] at h; rw [shL_nil h]; rfl
  | d :: x, y, h, hx => by
    rw [shL] at h
    obtain ⟨u, z, rfl, e1, h1⟩ := shL_cons h
    rw [vals, List.map_cons, List.all_cons, sh_one e1 (hx _ (by simp)), Bool.true_and]
    exact shL_one h1 fun u hu => hx u (List.mem_cons_of_mem _ hu)
theorem sh_sl_congr {T T' sz n n' cap cap' : Nat} {a a' : Option Addr} {dn es : List (List DV)} (h : shLL dn = shLL es) : (DV.sl T sz a n cap dn).sh = (DV.sl T' sz a' n' cap' es).sh := by
  rw [DV.sh, DV.sh, h, shLL_len h]
theorem shL_congr {d u : DV} {l l' : List DV} (h : d.sh = u.sh) (hl : shL l = shL l') : shL (d :: l) = shL (u :: l') := by rw [shL, shL, h, hl]
theorem Ent.ownAtCons {m : Option Img} {v : Value} {l : List DV} {A : List HProp} (hv : v.oneCell' = true) (h : Ent A [ownL m l]) : Ent A [ownL m (.at v :: l)] :=
  (h.append (.toOwnAt v hv) : Ent (A ++ []) [ownL m l, DV.own m (.at v)]) |> fun h => by rw [List.append_nil] at h; exact h.trans (Ent.swap.trans .toOwnCons)
theorem Ent.ownSlCons {m : Option Img} {T sz n cap : Nat} {a : Option Addr} {es : List (List DV)} {l : List DV} {A : List HProp} (hn : es.length ≤ 1000000) (h : Ent A [ownL m l]) :
    Ent (Zed.sl T sz a n cap (es.map vals) :: ownLL m es :: A) [ownL m (.sl T sz a n cap es :: l)] :=
  (Ent.append (A := [_, _]) (Ent.toOwnSl hn) h).trans .toOwnCons
theorem shLL_mem {α : Type} {f : α → List DV} : ∀ {es : List (List DV)} {l : List α} {x : List DV}, shLL es = l.map f → x ∈ es → ∃ t ∈ l, shL x = f t
  | [], _, _, _, hx => by cases hx
  | y :: es, l, x, h, hx => by
    rw [shLL] at h
    cases l with
    | nil => cases h
    | cons t l =>
      rw [List.map_cons, List.cons.injEq] at h
      rcases List.mem_cons.1 hx with rfl | hx
      · exact ⟨t, by simp, h.1⟩
      · obtain ⟨u, hu, he⟩ := shLL_mem h.2 hx
        exact ⟨u, List.mem_cons_of_mem _ hu, he⟩
theorem Fc.entPost {P : Program} {f : FuncId} {args : Array Value} {own : List HProp} {F : Frag} {g : Img} {Q Q' : Value → List HProp → Img → Prop} (h : Fc P f args own F g Q) (hq : ∀ v o g', Q v o g' → ∃ o2, Ent o o2 ∧ Q' v o2 g') : Fc P f args own F g Q' := by
  intro w hw
  refine (h w hw).mono ?_
  rintro e w' ⟨v, own', g', rfl, hle', hQ, hh⟩
  obtain ⟨o2, he, hQ'⟩ := hq _ _ _ hQ
  exact ⟨v, o2, g', rfl, hle', hQ', hh.ent he⟩
theorem Ent.ownAppend {m : Option Img} {l : List DV} {A : List HProp} (h : Ent A [ownL m l]) : ∀ {l1 : List DV}, Ent (ownL m l1 :: A) [ownL m (l1 ++ l)]
  | [] => ((Ent.append (A' := A) (Ent.ownNil (m := m)) h) : Ent ([ownL m []] ++ A) ([] ++ [ownL m l]))
  | d :: l1 => (Ent.append (A' := A) (Ent.ownCons (m := m) (d := d) (l := l1)) (.refl A)).trans ((Ent.cons _ (Ent.ownAppend h (l1 := l1))).trans .toOwnCons)
theorem Len.of : ∀ {l : List Value} {n : Nat}, l.length = n → Len l n
  | [], _, rfl => .nil
  | _ :: _, _, rfl => .cons (Len.of rfl)
theorem zl_get {dn es : List (List DV)} {i : Nat} (hd : dn.length = i) (hi : i < es.length) : ((dn ++ es.drop i).map vals)[i]? = some (vals es[i]) := by
  rw [List.drop_eq_getElem_cons hi, List.map_append, List.getElem?_append_right (by simp; omega), List.length_map, hd, Nat.sub_self]; rfl
theorem zl_set {dn es : List (List DV)} {i : Nat} (hd : dn.length = i) (hi : i < es.length) (y : List DV) : ((dn ++ [y]) ++ es.drop (i + 1)).map vals = ((dn ++ es.drop i).map vals).set i (vals y) := by
  rw [List.drop_eq_getElem_cons hi, List.map_append (l₂ := _ :: _), List.map_cons, List.set_append_right _ _ (by simp; omega)]; simp [hd]
theorem shLL_take {dn es : List (List DV)} {i : Nat} {y : List DV} (h : shLL dn = shLL (es.take i)) (hi : i < es.length) (hy : shL y = shL es[i]) : shLL (dn ++ [y]) = shLL (es.take (i + 1)) := by
  rw [List.take_succ_eq_append_getElem hi, shLL_map, shLL_map, List.map_append, List.map_append, ← shLL_map dn, h, shLL_map, List.map_cons, List.map_nil, hy]; rfl
/-- What one step of a copying loop needs to know of the list. -/
structure ZL (dn es : List (List DV)) (i sz : Nat) (sp : List Value) (x : List DV) : Prop where
  look : Look (((dn ++ es.drop i).map vals).flatten ++ sp) (0 + i * sz) (vals x)
  xl : (vals x).length = sz
  len : ∀ y, shL y = shL x → (vals y).length = sz
  set : ∀ y, shL y = shL x → SetOk (((dn ++ es.drop i).map vals).flatten ++ sp) (0 + i * sz) (vals y) ((((dn ++ [y]) ++ es.drop (i + 1)).map vals).flatten ++ sp)
  el : ∀ y, shL y = shL x → ∀ z ∈ ((dn ++ [y]) ++ es.drop (i + 1)).map vals, z.length = sz
theorem ZL.of {dn es : List (List DV)} {i sz : Nat} {sp : List Value} (hd : dn.length = i) (hi : i < es.length) (hel : ∀ z ∈ (dn ++ es.drop i).map vals, z.length = sz) : ZL dn es i sz sp es[i] := by
  have hg := zl_get hd hi
  have hxl := hel _ (List.mem_of_getElem? hg)
  have hl : ∀ y, shL y = shL es[i] → (vals y).length = sz := fun y hy => by rw [← hxl, vals, vals, List.length_map, List.length_map, shL_len hy]
  refine ⟨look_flat hel hg, hxl, hl, fun y hy => ?_, fun y hy z hz => ?_⟩
  · rw [zl_set hd hi]; exact setOk_flat0 hel hg (hl y hy)
  · rw [zl_set hd hi] at hz
    rcases List.mem_or_eq_of_mem_set hz with hz | rfl
    · exact hel z hz
    · exact hl y hy
theorem Ent.ownSplit {m : Option Img} : ∀ {l1 l : List DV}, Ent [ownL m (l1 ++ l)] [ownL m l1, ownL m l]
  | [], l => Ent.append (A := []) (A' := [_]) .toOwnNil (.refl _)
  | d :: l1, l => Ent.ownCons.trans ((Ent.cons _ Ent.ownSplit).trans (Ent.append (A := [_, _]) (A' := [_]) .toOwnCons (.refl _)))
theorem Ent.lendTo {m : Option Img} {l : List DV} : Ent [ownL none l] [ownL m l] := by
  cases m with
  | none => exact .refl _
  | some g => exact Ent.lendL l
theorem Ent.lendLLTo {m : Option Img} {l : List (List DV)} : Ent [ownLL none l] [ownLL m l] := by
  cases m with
  | none => exact .refl _
  | some g => exact Ent.lendLL l
theorem SetOk.again {l vs l' vs' : List Value} {off : Nat} (h : SetOk l off vs l') (hl : vs'.length = vs.length) : ∃ l2, SetOk l' off vs' l2 ∧ SetOk l off vs' l2 := by
  obtain ⟨rfl, h⟩ := h
  refine ⟨l.take off ++ vs' ++ l.drop (off + vs'.length), ⟨?_, by simp; omega⟩, rfl, by omega⟩
  have e1 : (l.take off).length = off := by simp; omega
  rw [List.drop_left' (by simp; omega), List.append_assoc (l.take off) vs, List.take_left' e1, hl]
theorem SetOk.self {l vs : List Value} {off : Nat} (h : Look l off vs) (hl : off + vs.length ≤ l.length) : SetOk l off vs l := by
  refine ⟨?_, hl⟩
  refine List.ext_getElem? fun i => ?_
  rw [List.append_assoc]
  rcases Nat.lt_or_ge i off with hi | hi
  · rw [List.getElem?_append_left (by simp; omega), List.getElem?_take, if_pos hi]
  · rw [List.getElem?_append_right (by simp; omega)]
    have e1 : (l.take off).length = off := by simp; omega
    rw [e1]
    rcases Nat.lt_or_ge i (off + vs.length) with h2 | h2
    · rw [List.getElem?_append_left (by omega)]
      have := h (i - off) vs[i - off] (List.getElem?_eq_getElem (by omega))
      rw [List.getElem?_eq_getElem (show i - off < vs.length by omega), ← this, Nat.add_sub_cancel' hi]
    · rw [List.getElem?_append_right (by omega), List.getElem?_drop]
      congr 1; omega
theorem set_same {α : Type} {l : List α} {i : Nat} {x : α} (h : l[i]? = some x) : l.set i x = l := by
  obtain ⟨hi, rfl⟩ := List.getElem?_eq_some_iff.1 h
  exact List.set_getElem_self hi
theorem perm5 {α : Type} {c A B E U : α} : [c, A, B, E, U].Perm [E, A, B, c, U] :=
  (List.Perm.swap A c [B, E, U]).trans ((List.Perm.cons A (.swap B c [E, U])).trans ((List.Perm.cons A (.cons B (.swap E c [U]))).trans ((List.Perm.cons A (.swap E B [c, U])).trans (.swap E A [B, c, U]))))
/-! ### A way down into an owned tree -/
structure Zip (T0 b0 T b off sz : Nat) (L : List Value) (y : List DV) (U : List HProp) (f : List DV → List DV) : Prop where
  yl : (vals y).length = sz
  self : SetOk L off (vals y) L
  close : ∀ (m : Option Img) (z : List DV) (L' : List Value), (vals z).length = sz → SetOk L off (vals z) L' → Ent [cel b T L', ownL m z, star U] [cel b0 T0 (vals (f z)), ownL m (f z)]
theorem Zip.start {T0 b0 sz : Nat} {y : List DV} (h : (vals y).length = sz) : Zip T0 b0 T0 b0 0 sz (vals y) y [] id := by
  refine ⟨h, ⟨by simp, by simp⟩, fun m z L' hz hs => ?_⟩
  obtain ⟨rfl, _⟩ := hs
  rw [List.take_zero, List.nil_append, Nat.zero_add, hz, ← h, List.drop_length, List.append_nil]
  exact Ent.append (A := [_, _]) (B := [_, _]) (B' := []) (.refl _) Ent.unstar
theorem Zip.step {T0 b0 T b off sz T3 b3 n3 c3 i : Nat} {L sp : List Value} {y' A B : List DV} {U : List HProp} {f : List DV → List DV} {su : List (List DV)}
    (h : Zip T0 b0 T b off sz L (A ++ .sl T3 sz (some ⟨b3, 0, none⟩) n3 c3 su :: B) U f) (hi : su[i]? = some y') (hn : n3 = su.length) (hel : ∀ x ∈ su.map vals, x.length = sz)
    (hc : n3 ≤ c3) (hm : c3 ≤ maxLen) (hsp : sp.length = (c3 - n3) * sz) (hmax : su.length ≤ 1000000) :
    Zip T0 b0 T3 b3 (0 + i * sz) sz ((su.map vals).flatten ++ sp) y' [cel b T L, ownL none A, ownL none B, ownLL none (su.eraseIdx i), star U] (fun z => f (A ++ .sl T3 sz (some ⟨b3, 0, none⟩) n3 c3 (su.set i z) :: B)) := by
  have hi' : i < su.length := (List.getElem?_eq_some_iff.1 hi).1
  have hg : (su.map vals)[i]? = some (vals y') := by rw [List.getElem?_map, hi]; rfl
  have hy' := hel _ (List.mem_of_getElem? hg)
  have hlk : Look ((su.map vals).flatten ++ sp) (0 + i * sz) (vals y') := look_flat hel hg
  have hset := fun (z : List DV) (hz : (vals z).length = sz) => setOk_flat0 (sp := sp) hel hg hz
  have hself : (su.map vals).set i (vals y') = su.map vals := set_same hg
  refine ⟨hy', ?_, fun m z L' hz hs => ?_⟩
  · have := hset y' hy'
    rwa [hself] at this
  · obtain rfl : L' = (((su.set i z).map vals).flatten ++ sp) := by
      rw [hs.1, List.map_set, (hset z hz).1]
    have hel2 : ∀ x ∈ (su.set i z).map vals, x.length = sz := by
      intro x hx
      rw [List.map_set] at hx
      rcases List.mem_or_eq_of_mem_set hx with hx | rfl
      · exact hel x hx
      · exact hz
    have hvals : vals (A ++ .sl T3 sz (some ⟨b3, 0, none⟩) n3 c3 (su.set i z) :: B) = vals (A ++ .sl T3 sz (some ⟨b3, 0, none⟩) n3 c3 su :: B) := by simp [vals]
    have key := h.close m (A ++ .sl T3 sz (some ⟨b3, 0, none⟩) n3 c3 (su.set i z) :: B) L (by rw [hvals]; exact h.yl) (by rw [hvals]; exact h.self)
    refine Ent.trans ?_ key
    have e1 : Ent [cel b3 T3 (((su.set i z).map vals).flatten ++ sp)] [Zed.sl T3 sz (some ⟨b3, 0, none⟩) n3 c3 ((su.set i z).map vals)] := .closeSl (by simpa using hn) hel2 hc hm hsp
    have e2 : Ent [ownL m z, ownLL none (su.eraseIdx i)] [ownLL m (su.set i z)] := (Ent.cons _ Ent.lendLLTo).trans (Ent.ownLLSet z hi')
    have e3 : Ent [Zed.sl T3 sz (some ⟨b3, 0, none⟩) n3 c3 ((su.set i z).map vals), ownLL m (su.set i z), ownL none B] [ownL m (.sl T3 sz (some ⟨b3, 0, none⟩) n3 c3 (su.set i z) :: B)] := .ownSlCons (by simpa using hmax) Ent.lendTo
    have e4 := (Ent.append (A := [_]) (B := [_]) (Ent.lendTo (m := m) (l := A)) e3).trans (Ent.ownAppend (A := [_]) (.refl _))
    have e5 : Ent [cel b3 T3 (((su.set i z).map vals).flatten ++ sp), ownL m z, ownLL none (su.eraseIdx i), ownL none A, ownL none B, cel b T L, star U] _ :=
      (Ent.append e1 (Ent.append e2 (.refl [ownL none A, ownL none B, cel b T L, star U]))).trans
        ((Ent.perm (by
          show List.Perm [Zed.sl T3 sz (some ⟨b3, 0, none⟩) n3 c3 ((su.set i z).map vals), ownLL m (su.set i z), ownL none A, ownL none B, cel b T L, star U] ([ownL none A, Zed.sl T3 sz (some ⟨b3, 0, none⟩) n3 c3 ((su.set i z).map vals), ownLL m (su.set i z), ownL none B] ++ [cel b T L, star U])
          exact List.Perm.trans (List.Perm.cons _ (.swap _ _ _)) (.swap _ _ _))).trans (Ent.append e4 (.refl [cel b T L, star U])))
    exact Ent.trans (Ent.cons _ (Ent.cons _ Ent.unstar)) ((Ent.perm (.cons _ (.cons _ perm5))).trans (e5.trans Ent.swap))
end Go.Zed
