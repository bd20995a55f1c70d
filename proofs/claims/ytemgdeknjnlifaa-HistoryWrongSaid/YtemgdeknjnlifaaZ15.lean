import Derived.Test.YtemgdeknjnlifaaZ14
namespace Go.Proofs.Ytemgdeknjnlifaa
open Go Go.Zed
attribute [local irreducible] R RO RD OpOk QOk
set_option maxRecDepth 10000
set_option maxHeartbeats 4000000
/-! ### What is called of a tree -/
section
variable {c : Cx} {D : List Deferred} {e : List (Nat × Value)} {own B r : List HProp} {g : Img} {ty : TypeId} {K : Value → List HProp → Img → Prop} {xs : List Operand} {ats : Array TypeId} {fid N b : Nat} {F0 : Frag} {g0 : Img} {Post : Value → List HProp → Img → Prop} {s : St} {h : St → List HProp}
theorem c_new {st : ByteArray} (hl : lng st { data := #[] } = false) (hx : evs e xs = some [.string st]) (hK : ∀ b g', Le g g' → K (.tuple [ptr b, .int .i64 0].toArray) (tr b (St.one st) :: own) g') :
    OpOk (fnCx Try.prog fid N F0 g0 Post) D (.call { callee := .value (.func 35), args := xs.toArray, argTypes := ats }) ty e own g K := by
  refine OpOk.callV (f := 35) (fl := []) (cl := []) rfl hx (fun F => new_ok F g st) .nil ?_
  rintro v own' g' hle h
  rw [if_neg (by simp [hl])] at h
  obtain ⟨b, rfl, rfl⟩ := h
  exact hK b g' hle
theorem c_newLong {st : ByteArray} (hl : lng st { data := #[] } = true) (hx : evs e xs = some [.string st]) (hK : ∀ g', Le g g' → K (.tuple [.pointer none, .int .i64 3].toArray) own g') :
    OpOk (fnCx Try.prog fid N F0 g0 Post) D (.call { callee := .value (.func 35), args := xs.toArray, argTypes := ats }) ty e own g K := by
  refine OpOk.callV (f := 35) (fl := []) (cl := []) rfl hx (fun F => new_ok F g st) .nil ?_
  rintro v own' g' hle h
  rw [if_pos hl] at h
  obtain ⟨rfl, rfl⟩ := h
  exact hK g' hle
theorem c_do {st note : ByteArray} {tick : Int} (hx : evs e xs = some [ptr b, .string st, .string note, .int .i64 tick]) [ht : UpT b own s h] (hs : s.Ok) (hK : ∀ g', Le g g' → K (.tuple #[.int .i64 (s.doN st note tick), .int .i64 (s.doC st note tick)]) (h (s.doT st note tick)) g') :
    OpOk (fnCx Try.prog fid N F0 g0 Post) D (.call { callee := .value (.func 17), args := xs.toArray, argTypes := ats }) ty e own g K :=
  OpOk.turnT (f := 17) (fl := []) (cl := []) rfl hx (fun F => do_ok F g b s hs st note tick) hK
theorem c_undo (hx : evs e xs = some [ptr b]) [ht : UpT b own s h] (hs : s.Ok) (hK : ∀ g', Le g g' → K (.tuple #[.string (stS s.es s.cur.p), .int .i64 (stC s.es s.cur.p)]) (h (s.stp s.cur.p)) g') :
    OpOk (fnCx Try.prog fid N F0 g0 Post) D (.call { callee := .value (.func 15), args := xs.toArray, argTypes := ats }) ty e own g K :=
  OpOk.turnT (f := 15) (fl := []) (cl := []) rfl hx (fun F => undo_ok F g b s hs) hK
theorem c_redo (hx : evs e xs = some [ptr b]) [ht : UpT b own s h] (hs : s.Ok) (hK : ∀ g', Le g g' → K (.tuple #[.string (stS s.es s.rp), .int .i64 (stC s.es s.rp)]) (h (s.stp s.rp)) g') :
    OpOk (fnCx Try.prog fid N F0 g0 Post) D (.call { callee := .value (.func 16), args := xs.toArray, argTypes := ats }) ty e own g K :=
  OpOk.turnT (f := 16) (fl := []) (cl := []) rfl hx (fun F => redo_ok F g b s hs) hK
theorem c_go {n : Int} (hx : evs e xs = some [ptr b, .int .i64 n]) [ht : UpT b own s h] (hs : s.Ok) (hK : ∀ g', Le g g' → K (.tuple #[.string (stS s.es n), .int .i64 (stC s.es n)]) (h (s.goT n)) g') :
    OpOk (fnCx Try.prog fid N F0 g0 Post) D (.call { callee := .value (.func 18), args := xs.toArray, argTypes := ats }) ty e own g K :=
  OpOk.turnT (f := 18) (fl := []) (cl := []) rfl hx (fun F => go_ok F g b s hs n) hK
theorem c_now (hx : evs e xs = some [ptr b]) [ht : TkT b own s r] (hs : s.Ok) (hK : ∀ g', Le g g' → K (.tuple #[.int .i64 s.now, .string s.cur.st]) own g') :
    OpOk (fnCx Try.prog fid N F0 g0 Post) D (.call { callee := .value (.func 14), args := xs.toArray, argTypes := ats }) ty e own g K :=
  OpOk.lendK (f := 14) (fl := []) (cl := []) (L := []) (A := [tr b s]) rfl hx (fun F g1 _ _ => now_ok F g1 b s hs) (.cons ht.take .nil) hK
theorem c_len (hx : evs e xs = some [ptr b]) [ht : TkT b own s r] (hK : ∀ g', Le g g' → K (.int .i64 s.es.length) own g') :
    OpOk (fnCx Try.prog fid N F0 g0 Post) D (.call { callee := .value (.func 20), args := xs.toArray, argTypes := ats }) ty e own g K :=
  OpOk.lendK (f := 20) (fl := []) (cl := []) (L := []) (A := [tr b s]) rfl hx (fun F g1 _ _ => len_ok F g1 b s) (.cons ht.take .nil) hK
theorem c_entry {n : Int} (hx : evs e xs = some [ptr b, .int .i64 n]) [ht : TkT b own s r] (hs : s.Ok) (hK : ∀ g', Le g g' → K (.tuple #[.agg (entS s.es n).cells.toArray, .int .i64 (stC s.es n)]) own g') :
    OpOk (fnCx Try.prog fid N F0 g0 Post) D (.call { callee := .value (.func 24), args := xs.toArray, argTypes := ats }) ty e own g K :=
  OpOk.lendK (f := 24) (fl := []) (cl := []) (L := []) (A := [tr b s]) rfl hx (fun F g1 _ _ => entry_ok F g1 b s hs n) (.cons ht.take .nil) hK
/-- A call that reads a tree and makes something new. -/
theorem OpOk.readT {fx : Operand} {f : Nat} {fl cl vs : List Value} {Q : Value → List HProp → Prop} [hF : CF c.P f]
    (hf : ev e fx = some (.func (.func f) fl.toArray cl.toArray)) (hx : evs e xs = some vs) [ht : TkT b own s r] (hc : ∀ F g1, Fc c.P f (fl ++ (vs ++ cl)).toArray [tr b s] F g1 (fun v own' _ => ∃ o2, own' = o2 ++ [tr b s] ∧ Q v o2))
    (hK : ∀ v o2 g', Le g g' → Q v o2 → K v (o2 ++ own) g') : OpOk c D (.call { callee := .value fx, args := xs.toArray, argTypes := ats }) ty e own g K := by
  refine OpOk.post (K' := fun v o1 g' => ∃ o2, Le g g' ∧ Q v o2 ∧ o1 = (o2 ++ [tr b s]) ++ r) (OpOk.callV hf hx (fun F => hc F g) (.cons ht.take .nil) ?_) ?_
  · rintro v own' g' hle ⟨o2, rfl, hQ⟩
    exact ⟨o2, hle, hQ, rfl⟩
  · rintro v o1 g' _ ⟨o2, hle, hQ, rfl⟩
    refine ⟨_, hK v o2 g' hle hQ, ?_⟩
    rw [List.append_assoc]
    exact (ht.take.perm.symm).append_left o2
theorem c_way {n : Int} (hx : evs e xs = some [ptr b, .int .i64 n]) [ht : TkT b own s r] (hs : s.Ok) (hK : ∀ a m cp g', Le g g' → K (.tuple #[.slice a m cp, .int .i64 (stC s.es n)]) (sl 3 1 a m cp (ints (way s.es n)) :: own) g') :
    OpOk (fnCx Try.prog fid N F0 g0 Post) D (.call { callee := .value (.func 22), args := xs.toArray, argTypes := ats }) ty e own g K := by
  refine OpOk.readT (b := b) (s := s) (f := 22) (fl := []) (cl := []) (Q := fun v o2 => ∃ a m cp, o2 = [sl 3 1 a m cp (ints (way s.es n))] ∧ v = .tuple #[.slice a m cp, .int .i64 (stC s.es n)]) rfl hx (fun F g1 => (way_ok F g1 b s hs n).mono ?_) ?_
  · rintro v own' g' _ ⟨a, m, cp, rfl, rfl⟩
    exact ⟨[_], rfl, a, m, cp, rfl, rfl⟩
  · rintro v o2 g' hle ⟨a, m, cp, rfl, rfl⟩
    exact hK a m cp g' hle
theorem c_kids {n : Int} (hx : evs e xs = some [ptr b, .int .i64 n]) [ht : TkT b own s r] (hs : s.Ok) (hK : ∀ a m cp g', Le g g' → K (.tuple #[.slice a m cp, .int .i64 (stC s.es n)]) (sl 3 1 a m cp (ints (kids s.es n)) :: own) g') :
    OpOk (fnCx Try.prog fid N F0 g0 Post) D (.call { callee := .value (.func 25), args := xs.toArray, argTypes := ats }) ty e own g K := by
  refine OpOk.readT (b := b) (s := s) (f := 25) (fl := []) (cl := []) (Q := fun v o2 => ∃ a m cp, o2 = [sl 3 1 a m cp (ints (kids s.es n))] ∧ v = .tuple #[.slice a m cp, .int .i64 (stC s.es n)]) rfl hx (fun F g1 => (children_ok F g1 b s hs n).mono ?_) ?_
  · rintro v own' g' _ ⟨a, m, cp, rfl, rfl⟩
    exact ⟨[_], rfl, a, m, cp, rfl, rfl⟩
  · rintro v o2 g' hle ⟨a, m, cp, rfl, rfl⟩
    exact hK a m cp g' hle
theorem c_between {n m0 : Int} (hx : evs e xs = some [ptr b, .int .i64 n, .int .i64 m0]) [ht : TkT b own s r] (hs : s.Ok) (hK : ∀ a m cp g', Le g g' → K (.tuple #[.slice a m cp, .int .i64 (btwC s.es n m0)]) (sl 3 1 a m cp (ints (btwS s.es n m0)) :: own) g') :
    OpOk (fnCx Try.prog fid N F0 g0 Post) D (.call { callee := .value (.func 21), args := xs.toArray, argTypes := ats }) ty e own g K := by
  refine OpOk.readT (b := b) (s := s) (f := 21) (fl := []) (cl := []) (Q := fun v o2 => ∃ a m cp, o2 = [sl 3 1 a m cp (ints (btwS s.es n m0))] ∧ v = .tuple #[.slice a m cp, .int .i64 (btwC s.es n m0)]) rfl hx (fun F g1 => (between_ok F g1 b s hs n m0).mono ?_) ?_
  · rintro v own' g' _ ⟨a, m, cp, rfl, rfl⟩
    exact ⟨[_], rfl, a, m, cp, rfl, rfl⟩
  · rintro v o2 g' hle ⟨a, m, cp, rfl, rfl⟩
    exact hK a m cp g' hle
theorem c_find {t : ByteArray} (hx : evs e xs = some [ptr b, .string t]) [ht : TkT b own s r] (hs : s.Ok) (hK : ∀ a m cp g', Le g g' → K (.slice a m cp) (sl 3 1 a m cp (ints (those s.es t)) :: own) g') :
    OpOk (fnCx Try.prog fid N F0 g0 Post) D (.call { callee := .value (.func 26), args := xs.toArray, argTypes := ats }) ty e own g K := by
  refine OpOk.readT (b := b) (s := s) (f := 26) (fl := []) (cl := []) (Q := fun v o2 => ∃ a m cp, o2 = [sl 3 1 a m cp (ints (those s.es t))] ∧ v = .slice a m cp) rfl hx (fun F g1 => (find_ok F g1 b s hs t).mono ?_) ?_
  · rintro v own' g' _ ⟨a, m, cp, rfl, rfl⟩
    exact ⟨[_], rfl, a, m, cp, rfl, rfl⟩
  · rintro v o2 g' hle ⟨a, m, cp, rfl, rfl⟩
    exact hK a m cp g' hle
theorem c_save (hx : evs e xs = some [ptr b]) [ht : TkT b own s r] (hs : s.Ok) (hK : ∀ a m cp g', Le g g' → K (.tuple #[.slice a m cp, .int .i64 s.now]) (sl 45 4 a m cp (s.es.map En.cells) :: own) g') :
    OpOk (fnCx Try.prog fid N F0 g0 Post) D (.call { callee := .value (.func 19), args := xs.toArray, argTypes := ats }) ty e own g K := by
  refine OpOk.readT (b := b) (s := s) (f := 19) (fl := []) (cl := []) (Q := fun v o2 => ∃ a m cp, o2 = [sl 45 4 a m cp (s.es.map En.cells)] ∧ v = .tuple #[.slice a m cp, .int .i64 s.now]) rfl hx (fun F g1 => (save_ok F g1 b s hs).mono ?_) ?_
  · rintro v own' g' _ ⟨a, m, cp, rfl, rfl⟩
    exact ⟨[_], rfl, a, m, cp, rfl, rfl⟩
  · rintro v o2 g' hle ⟨a, m, cp, rfl, rfl⟩
    exact hK a m cp g' hle
/-- Lists compared that lie still. -/
theorem c_same {a a' : Option Addr} {n n' cap cap' : Nat} {l l' : List Int} {u : Bool} (h1 : Sl g 1 a n (ints l)) (h2 : Sl g 1 a' n' (ints l')) (hn : l.length ≤ 1000000000000) (hx : evs e xs = some [.slice a n cap, .slice a' n' cap']) (hu : decide (l = l') = u) (hK : ∀ g', Le g g' → K (.bool u) own g') :
    OpOk (fnCx Try.prog fid N F0 g0 Post) D (.call { callee := .value (.func 23), args := xs.toArray, argTypes := ats }) ty e own g K := by
  subst hu
  exact OpOk.lendK (f := 23) (fl := []) (cl := []) (L := []) (A := []) rfl hx (fun F g1 hl _ => same_ok F g1 (h1.mono hl) (h2.mono hl) hn) .nil hK
end
end Go.Proofs.Ytemgdeknjnlifaa
