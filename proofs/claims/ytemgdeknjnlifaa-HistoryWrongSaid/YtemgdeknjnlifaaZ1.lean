import Derived.Test.YtemgdeknjnlifaaZT
import Derived.Test.YtemgdeknjnlifaaZedV
namespace Go.Proofs.Ytemgdeknjnlifaa
open Go Go.Zed
attribute [local irreducible] R RO RD OpOk QOk
set_option maxRecDepth 10000
set_option maxHeartbeats 4000000
theorem mo : Try.prog.follows .mixedOrders = true := by kernel_rfl
instance zv25 : ZV Try.prog 25 (.slice none 0 0) := ⟨fun w => by simp [zeroValue, typeInfo, Try.type25]; rfl⟩
instance zv3 : ZV Try.prog 3 (.int .i64 0) := ⟨fun w => by simp [zeroValue, typeInfo, Try.type3]; rfl⟩
/-! ### Trees, as they lie -/
@[reducible] def ints (l : List Int) : List (List Value) := l.map fun i => [.int .i64 i]
theorem ints_one {l : List Int} : ∀ u ∈ (ints l).flatten, u.oneCell' = true := by
  intro u hu
  simp only [ints, List.mem_flatten, List.mem_map] at hu
  obtain ⟨x, ⟨i, _, rfl⟩, hu⟩ := hu
  simp at hu; subst hu; rfl
theorem ints_el {l : List Int} : ∀ x ∈ ints l, x.length = 1 := by
  intro x hx
  simp only [ints, List.mem_map] at hx
  obtain ⟨i, _, rfl⟩ := hx; rfl
/-- An entry. -/
structure En where
  (p tick : Int) (note st : ByteArray)
deriving DecidableEq
@[reducible] def En.cells (e : En) : List Value := [.int .i64 e.p, .int .i64 e.tick, .string e.note, .string e.st]
/-- A tree: its entries, the present one, the favourites. -/
structure St where
  es : List En
  now : Int
  fav : Int → Option Int
/-- The numbers of the entries that are so. -/
def idx (q : En → Bool) : Int → List En → List Int
  | _, [] => []
  | i, e :: l => if q e then i :: idx q (i + 1) l else idx q (i + 1) l
theorem idx_append (q : En → Bool) (e : En) : ∀ (l : List En) (i : Int), idx q i (l ++ [e]) = idx q i l ++ if q e then [i + l.length] else []
  | [], i => by by_cases h : q e <;> simp [idx, h]
  | x :: l, i => by
    have e1 : i + 1 + (l.length : Int) = i + ((x :: l).length : Int) := by simp; omega
    by_cases h : q x <;> simp only [List.cons_append, idx, h, idx_append q e l (i + 1), e1, if_true, if_false, List.cons_append, Bool.false_eq_true]
theorem idx_len (q : En → Bool) : ∀ (l : List En) (i : Int), (idx q i l).length ≤ l.length
  | [], i => by simp [idx]
  | x :: l, i => by
    have := idx_len q l (i + 1)
    by_cases h : q x <;> simp [idx, h] <;> omega
@[reducible] def sons (l : List En) (i : Int) : List Int := idx (fun e => decide (e.p = i)) 0 l
@[reducible] def those (l : List En) (t : ByteArray) : List Int := idx (fun e => decide (e.st = t)) 0 l
structure Rw where
  (a : Option Addr) (n c : Nat)
@[reducible] def Rw.v (r : Rw) : Value := .slice r.a r.n r.c
@[reducible] def Rw.own (r : Rw) (l : List Int) : HProp := sl 3 1 r.a r.n r.c (ints l)
/-! ### Rows by number -/
def rowsN (f : Int → List Int) : Int → List Rw → List HProp
  | _, [] => []
  | i, r :: l => r.own (f i) :: rowsN f (i + 1) l
theorem rowsN_congr {f f' : Int → List Int} : ∀ {l : List Rw} {i : Int}, (∀ j, i ≤ j → f j = f' j) → rowsN f i l = rowsN f' i l
  | [], i, _ => rfl
  | r :: l, i, h => by rw [rowsN, rowsN, h i (by omega), rowsN_congr fun j hj => h j (by omega)]
theorem rowsN_take {f : Int → List Int} : ∀ {l : List Rw} {i : Int} {k : Nat} {r : Rw}, l[k]? = some r →
    ∃ rest, (rowsN f i l).Perm (r.own (f (i + k)) :: rest) ∧ ∀ (r' : Rw) (f' : Int → List Int), (∀ j, j ≠ i + k → f' j = f j) → (rowsN f' i (l.set k r')).Perm (r'.own (f' (i + k)) :: rest)
  | [], i, k, r, h => by simp at h
  | x :: l, i, 0, r, h => by
    have : x = r := by simpa using h
    subst this
    refine ⟨rowsN f (i + 1) l, by simp [rowsN], fun r' f' hf => ?_⟩
    rw [List.set_cons_zero, rowsN, rowsN_congr (f := f') (f' := f) fun j hj => hf j (by simp; omega)]
    simp
  | x :: l, i, k + 1, r, h => by
    obtain ⟨rest, h1, h2⟩ := rowsN_take (f := f) (l := l) (i := i + 1) (k := k) (r := r) (by simpa using h)
    have e1 : i + 1 + (k : Int) = i + ((k + 1 : Nat) : Int) := by simp; omega
    rw [e1] at h1
    refine ⟨x.own (f i) :: rest, ?_, fun r' f' hf => ?_⟩
    · rw [rowsN]; exact (h1.cons _).trans (.swap _ _ _)
    · have := h2 r' f' (by rw [e1]; exact hf)
      rw [e1] at this
      rw [List.set_cons_succ, rowsN, hf i (by simp; omega)]
      exact (this.cons _).trans (.swap _ _ _)
theorem rowsN_snoc {f : Int → List Int} {r : Rw} : ∀ {l : List Rw} {i : Int}, (rowsN f i (l ++ [r])).Perm (r.own (f (i + l.length)) :: rowsN f i l)
  | [], i => by simp [rowsN]
  | x :: l, i => by
    have := rowsN_snoc (f := f) (r := r) (l := l) (i := i + 1)
    have e1 : i + 1 + (l.length : Int) = i + ((x :: l).length : Int) := by simp; omega
    rw [e1] at this
    rw [List.cons_append, rowsN, rowsN]
    exact (this.cons _).trans (.swap _ _ _)
/-! ### Rows by key -/
def rowsK (f : ByteArray → List Int) (ks : List (ByteArray × Rw)) : List HProp := ks.map fun k => k.2.own (f k.1)
def getK : List (ByteArray × Rw) → ByteArray → Option Rw
  | [], _ => none
  | k :: ks, t => if k.1 = t then some k.2 else getK ks t
def delK (ks : List (ByteArray × Rw)) (t : ByteArray) : List (ByteArray × Rw) := ks.filter fun k => decide (k.1 ≠ t)
theorem getK_none {t : ByteArray} : ∀ {ks : List (ByteArray × Rw)}, getK ks t = none ↔ t ∉ ks.map (·.1)
  | [] => by simp [getK]
  | k :: ks => by
    by_cases h : k.1 = t
    · simp [getK, h]
    · simp only [getK, h, if_false, getK_none (ks := ks), List.map_cons, List.mem_cons, not_or]
      exact ⟨fun h' => ⟨fun e => h e.symm, h'⟩, fun h' => h'.2⟩
theorem delK_none {t : ByteArray} {ks : List (ByteArray × Rw)} (h : getK ks t = none) : delK ks t = ks := by
  rw [getK_none] at h
  refine List.filter_eq_self.2 fun k hk => ?_
  have : k.1 ≠ t := fun e => h (List.mem_map.2 ⟨k, hk, e⟩)
  simpa using this
theorem getK_delK {t u : ByteArray} (hu : u ≠ t) : ∀ {ks : List (ByteArray × Rw)}, getK (delK ks t) u = getK ks u
  | [] => rfl
  | k :: ks => by
    have ih := getK_delK hu (ks := ks)
    by_cases h : k.1 = t
    · have h2 : ¬ k.1 = u := fun e => hu (e.symm.trans h)
      simp only [delK, List.filter_cons, h, ne_eq, not_true_eq_false, decide_false, Bool.false_eq_true, if_false]
      rw [getK, if_neg h2]; exact ih
    · simp only [delK, List.filter_cons, h, ne_eq, not_false_eq_true, decide_true, if_true]
      rw [getK, getK]
      by_cases h2 : k.1 = u
      · rw [if_pos h2, if_pos h2]
      · rw [if_neg h2, if_neg h2]; exact ih
theorem delK_nodup {t : ByteArray} {ks : List (ByteArray × Rw)} (h : (ks.map (·.1)).Nodup) : ((delK ks t).map (·.1)).Nodup ∧ t ∉ (delK ks t).map (·.1) := by
  refine ⟨h.sublist ((List.filter_sublist).map _), fun hm => ?_⟩
  obtain ⟨k, hk, e⟩ := List.mem_map.1 hm
  have := (List.mem_filter.1 hk).2
  simp [e] at this
theorem rowsK_take {f : ByteArray → List Int} {t : ByteArray} {r : Rw} : ∀ {ks : List (ByteArray × Rw)}, (ks.map (·.1)).Nodup → getK ks t = some r → (rowsK f ks).Perm (r.own (f t) :: rowsK f (delK ks t))
  | [], _, h => by simp [getK] at h
  | k :: ks, hn, h => by
    simp only [List.map_cons, List.nodup_cons] at hn
    by_cases hk : k.1 = t
    · rw [getK, if_pos hk] at h
      cases h
      have e1 : delK (k :: ks) t = ks := by
        simp only [delK, List.filter_cons, hk, ne_eq, not_true_eq_false, decide_false, Bool.false_eq_true, if_false]
        exact delK_none (getK_none.2 (hk ▸ hn.1))
      rw [e1, rowsK, List.map_cons, hk]
      exact .refl _
    · rw [getK, if_neg hk] at h
      have e1 : delK (k :: ks) t = k :: delK ks t := by simp [delK, hk]
      rw [e1]
      exact ((rowsK_take hn.2 h).cons _).trans (.swap _ _ _)
theorem rowsK_congr {f f' : ByteArray → List Int} {ks : List (ByteArray × Rw)} (h : ∀ k ∈ ks, f k.1 = f' k.1) : rowsK f ks = rowsK f' ks := List.map_congr_left fun k hk => by rw [h k hk]
/-! ### The tree -/
/-- What a map holds. -/
def fsF (ks : List (ByteArray × Rw)) : Value → Option Value
  | .string t => (getK ks t).map Rw.v
  | _ => none
def ffF (fav : Int → Option Int) : Value → Option Value
  | .int .i64 i => (fav i).map fun x => .int .i64 x
  | _ => none
theorem putV_fsF {ks : List (ByteArray × Rw)} {t : ByteArray} {r : Rw} : putV (fsF ks) (.string t) r.v = fsF ((t, r) :: delK ks t) := by
  funext v
  by_cases h : v = .string t
  · subst h
    rw [putV_same, fsF, getK, if_pos rfl]; rfl
  · rw [putV_other h]
    cases v with
    | string u =>
      have h1 : ¬ u = t := fun e => h (by rw [e])
      have h2 : ¬ t = u := fun e => h1 e.symm
      rw [fsF, fsF, getK, if_neg h2, getK_delK h1]
    | _ => rfl
def updF (fav : Int → Option Int) (i x : Int) : Int → Option Int := fun j => if j = i then some x else fav j
theorem putV_ffF {fav : Int → Option Int} {i x : Int} : putV (ffF fav) (.int .i64 i) (.int .i64 x) = ffF (updF fav i x) := by
  funext v
  by_cases h : v = .int .i64 i
  · subst h
    rw [putV_same, ffF, updF, if_pos rfl]; rfl
  · rw [putV_other h]
    cases v with
    | int k j =>
      cases k with
      | i64 =>
        have h1 : ¬ j = i := fun e => h (by rw [e])
        rw [ffF, ffF, updF, if_neg h1]
      | _ => rfl
    | _ => rfl
theorem fsF_nil : fsF [] = fun _ => none := by funext v; cases v <;> rfl
theorem ffF_nil : ffF (fun _ => none) = fun _ => none := by
  funext v
  cases v with
  | int k i => cases k <;> rfl
  | _ => rfl
theorem mpI (b : Nat) : mp (.int .i64) b (fsF []) = mp (.int .i64) b (ffF fun _ => none) := by rw [fsF_nil, ffF_nil]
@[reducible] def treeC (a1 : Option Addr) (n1 c1 : Nat) (a2 : Option Addr) (n2 c2 bs : Nat) (now : Int) (bf : Nat) : List Value := [.slice a1 n1 c1, .slice a2 n2 c2, .map (some bs), .int .i64 now, .map (some bf)]
structure TrOk (es : List En) (ch : List Rw) (ks : List (ByteArray × Rw)) : Prop where
  len : ch.length = es.length
  nd : (ks.map (·.1)).Nodup
  has : ∀ t, t ∉ ks.map (·.1) → those es t = []
@[reducible] def trL (b : Nat) (es : List En) (now : Int) (fav : Int → Option Int) (a1 : Option Addr) (n1 c1 : Nat) (a2 : Option Addr) (n2 c2 bs bf : Nat) (ch : List Rw) (ks : List (ByteArray × Rw)) : List HProp :=
  [cel b 82 (treeC a1 n1 c1 a2 n2 c2 bs now bf), sl 45 4 a1 n1 c1 (es.map En.cells), sl 25 1 a2 n2 c2 (ch.map fun r => [r.v]), mp .string bs (fsF ks), mp (.int .i64) bf (ffF fav), star (rowsN (sons es) 0 ch), star (rowsK (those es) ks)]
/-- The tree at an address. -/
def tr (b : Nat) (s : St) : HProp := ex fun L => ∃ a1 n1 c1 a2 n2 c2 bs bf ch ks, L = trL b s.es s.now s.fav a1 n1 c1 a2 n2 c2 bs bf ch ks ∧ TrOk s.es ch ks
section
variable {c : Cx} {k : List Item} {D : List Deferred} {e : List (Nat × Value)} {own : List HProp} {g : Img}
theorem R.openTr {b : Nat} {s : St} (h : ∀ a1 n1 c1 a2 n2 c2 bs bf ch ks, TrOk s.es ch ks → n1 = s.es.length → n2 = ch.length → R c k D e (cel b 82 (treeC a1 n1 c1 a2 n2 c2 bs s.now bf) :: sl 45 4 a1 n1 c1 (s.es.map En.cells) :: sl 25 1 a2 n2 c2 (ch.map fun r => [r.v]) :: mp .string bs (fsF ks) :: mp (.int .i64) bf (ffF s.fav) :: star (rowsN (sons s.es) 0 ch) :: star (rowsK (those s.es) ks) :: own) g) :
    R c k D e (tr b s :: own) g := by
  refine R.openEx fun L hL => ?_
  obtain ⟨a1, n1, c1, a2, n2, c2, bs, bf, ch, ks, rfl, ho⟩ := hL
  refine R.lenT (.there .here) fun h1 _ => R.lenT (.there (.there .here)) fun h2 _ => ?_
  exact h _ _ _ _ _ _ _ _ _ _ ho (by simpa using h1) (by simpa using h2)
theorem R.closeTr {b : Nat} {s : St} {a1 : Option Addr} {n1 c1 : Nat} {a2 : Option Addr} {n2 c2 bs bf : Nat} {ch : List Rw} {ks : List (ByteArray × Rw)} (ho : TrOk s.es ch ks)
    (h : R c k D e (tr b s :: own) g) : R c k D e (trL b s.es s.now s.fav a1 n1 c1 a2 n2 c2 bs bf ch ks ++ own) g :=
  R.closeEx (L := trL b s.es s.now s.fav a1 n1 c1 a2 n2 c2 bs bf ch ks) ⟨_, _, _, _, _, _, _, _, _, _, rfl, ho⟩ h
theorem R.closeTrP {b : Nat} {s : St} {B : List HProp} {a1 : Option Addr} {n1 c1 : Nat} {a2 : Option Addr} {n2 c2 bs bf : Nat} {ch : List Rw} {ks : List (ByteArray × Rw)} (hp : Pick own (trL b s.es s.now s.fav a1 n1 c1 a2 n2 c2 bs bf ch ks) B) (ho : TrOk s.es ch ks)
    (h : R c k D e (tr b s :: B) g) : R c k D e own g := R.perm hp.perm (R.closeTr ho h)
theorem cells4 {es : List En} : ∀ x ∈ es.map En.cells, x.length = 4 := by
  intro x hx
  obtain ⟨e, _, rfl⟩ := List.mem_map.1 hx; rfl
/-- The same with the entries opened. -/
theorem R.closeTrE {b b2 : Nat} {s : St} {B : List HProp} {sp : List Value} {n1 c1 : Nat} {a2 : Option Addr} {n2 c2 bs bf : Nat} {ch : List Rw} {ks : List (ByteArray × Rw)}
    (hp : Pick own [cel b2 45 ((s.es.map En.cells).flatten ++ sp), cel b 82 (treeC (some ⟨b2, 0, none⟩) n1 c1 a2 n2 c2 bs s.now bf), sl 25 1 a2 n2 c2 (ch.map fun r => [r.v]), mp .string bs (fsF ks), mp (.int .i64) bf (ffF s.fav), star (rowsN (sons s.es) 0 ch), star (rowsK (those s.es) ks)] B)
    (ho : TrOk s.es ch ks) (hn : n1 = s.es.length) (hc : n1 ≤ c1) (hm : c1 ≤ maxLen) (hsp : sp.length = (c1 - n1) * 4)
    (h : R c k D e (tr b s :: B) g) : R c k D e own g := by
  refine R.perm hp.perm (R.closeSl (n := n1) (cap := c1) (by simpa using hn) cells4 hc hm hsp ?_)
  exact R.perm (List.Perm.swap _ _ _) (R.closeTr ho h)
theorem R.consStar {p : HProp} {L : List HProp} (h : R c k D e (star (p :: L) :: own) g) : R c k D e (p :: star L :: own) g :=
  R.swap (R.unstar (R.perm List.perm_middle (R.toStar (L := p :: L) h)))
theorem R.permStar {L L' : List HProp} (hp : L.Perm L') (h : R c k D e (star L' :: own) g) : R c k D e (star L :: own) g :=
  R.unstar (R.perm (hp.append_right _) (R.toStar h))
/-- The row of a key: an empty one if there is none. -/
theorem R.rowK {es : List En} {ks : List (ByteArray × Rw)} {st : ByteArray} (hnd : (ks.map (·.1)).Nodup) (hhas : ∀ t, t ∉ ks.map (·.1) → those es t = [])
    (h : ∀ r : Rw, ((fsF ks) (.string st)).getD (.slice none 0 0) = r.v → r.n ≤ es.length → R c k D e (r.own (those es st) :: star (rowsK (those es) (delK ks st)) :: own) g) : R c k D e (star (rowsK (those es) ks) :: own) g := by
  cases hg : getK ks st with
  | none =>
    rw [← delK_none (t := st) hg]
    refine R.nilSl 3 1 ?_
    have := h ⟨none, 0, 0⟩ (by rw [fsF, hg]; rfl) (Nat.zero_le _)
    rw [hhas st (getK_none.1 hg)] at this
    exact this
  | some r =>
    refine R.unstar (R.perm ((rowsK_take hnd hg).append_right _) ?_)
    rw [List.cons_append]
    refine R.lenT .here fun hlen _ => ?_
    have hle : r.n ≤ es.length := by
      have := idx_len (fun e => decide (e.st = st)) es 0
      rw [hlen]; simpa using this
    exact R.perm List.perm_middle.symm (R.toStar (R.swap (h r (by rw [fsF, hg]; rfl) hle)))
end
class inductive TkT (b : Nat) : List HProp → outParam St → outParam (List HProp) → Prop
  | there {q : HProp} {own r : List HProp} {s : St} (h : TkT b own s r) : TkT b (q :: own) s (q :: r)
  | here {s : St} {r : List HProp} : TkT b (tr b s :: r) s r
instance {b : Nat} {q : HProp} {own r : List HProp} {s : St} [h : TkT b own s r] : TkT b (q :: own) s (q :: r) := .there h
instance {b : Nat} {s : St} {r : List HProp} : TkT b (tr b s :: r) s r := .here
theorem TkT.take {b : Nat} {s : St} {own r : List HProp} (h : TkT b own s r) : Take (tr b s) own r := by
  induction h with
  | here => exact .here
  | there _ ih => exact .there ih
class inductive UpT (b : Nat) : List HProp → outParam St → outParam (St → List HProp) → Prop
  | there {q : HProp} {own : List HProp} {s : St} {f : St → List HProp} (h : UpT b own s f) : UpT b (q :: own) s (fun x => q :: f x)
  | here {s : St} {r : List HProp} : UpT b (tr b s :: r) s (fun x => tr b x :: r)
instance {b : Nat} {q : HProp} {own : List HProp} {s : St} {f : St → List HProp} [h : UpT b own s f] : UpT b (q :: own) s (fun x => q :: f x) := .there h
instance {b : Nat} {s : St} {r : List HProp} : UpT b (tr b s :: r) s (fun x => tr b x :: r) := .here
theorem UpT.upd {b : Nat} {s : St} {own : List HProp} {f : St → List HProp} (h : UpT b own s f) (s' : St) : Upd (tr b s) (tr b s') own (f s') := by
  induction h with
  | here => exact .here
  | there _ ih => exact .there ih
@[reducible] def ptr (b : Nat) : Value := .pointer (some ⟨b, 0, none⟩)
section
variable {c : Cx} {D : List Deferred} {e : List (Nat × Value)} {own : List HProp} {g : Img} {ty : TypeId} {K : Value → List HProp → Img → Prop}
/-- A call that turns the tree. -/
theorem OpOk.turnT {fx : Operand} {f : Nat} {fl cl vs : List Value} {xs : List Operand} {ats : Array TypeId} {b : Nat} {s s' : St} {u : Value} {h : St → List HProp} [hF : CF c.P f]
    (hf : ev e fx = some (.func (.func f) fl.toArray cl.toArray)) (hx : evs e xs = some vs) [ht : UpT b own s h] (hc : ∀ F, Fc c.P f (fl ++ (vs ++ cl)).toArray [tr b s] F g (fun v own' g' => own' = [tr b s'] ∧ v = u))
    (hK : ∀ g', Le g g' → K u (h s') g') : OpOk c D (.call { callee := .value fx, args := xs.toArray, argTypes := ats }) ty e own g K := by
  obtain ⟨r, h1, h2⟩ := (ht.upd s').perm
  refine OpOk.post (K' := fun v o1 g' => Le g g' ∧ v = u ∧ o1 = tr b s' :: r) (OpOk.of_perm h1 (OpOk.callV (A := [tr b s]) (B := r) hf hx hc (.cons .here .nil) ?_)) ?_
  · rintro v own' g' hle ⟨rfl, rfl⟩
    exact ⟨hle, rfl, rfl⟩
  · rintro v o1 g' _ ⟨hle, rfl, rfl⟩
    exact ⟨_, hK g' hle, h2⟩
end
end Go.Proofs.Ytemgdeknjnlifaa
