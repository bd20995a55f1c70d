import Derived.Test.YtemgdeknjnlifaaZ18
namespace Go.Proofs.Ytemgdeknjnlifaa
open Go Go.Zed
attribute [local irreducible] R RO RD OpOk QOk
set_option maxRecDepth 10000
set_option maxHeartbeats 4000000
/-! ### Contracts for the laws -/
def St.mv (s : St) (n : Int) : St := ⟨s.es, n, s.fav⟩
theorem St.mv_now (s : St) : s.mv s.now = s := rfl
theorem St.Ok.mv {s : St} (h : s.Ok) {n : Int} (hn : inE s.es n) : (s.mv n).Ok := ⟨h.wf, hn, h.few⟩
theorem St.mv_cur {s : St} {n : Int} {e : En} (h : ent s.es n = some e) : (s.mv n).cur = e := cur_of (s := s.mv n) rfl h
theorem St.mv_stp {s : St} {n m : Int} (h : inE s.es m) : (s.mv n).stp m = s.mv m := by
  show (⟨s.es, stN s.es n m, s.fav⟩ : St) = _
  rw [stN, if_pos h]; rfl
theorem St.mv_stay {s : St} {n m : Int} (h : ¬ inE s.es m) : (s.mv n).stp m = s.mv n := by
  show (⟨s.es, stN s.es n m, s.fav⟩ : St) = _
  rw [stN, if_neg h]; rfl
section
variable {c : Cx} {D : List Deferred} {e : List (Nat × Value)} {own B r : List HProp} {g : Img} {ty : TypeId} {K : Value → List HProp → Img → Prop} {xs : List Operand} {ats : Array TypeId} {fid N b : Nat} {F0 : Frag} {g0 : Img} {Post : Value → List HProp → Img → Prop} {s s' : St} {h : St → List HProp} {k : Int}
theorem c_acted {a : Option Addr} {n cp : Nat} {l : List (Int × Int)} (hl : Sl g 2 a n (acts l)) (hr : ∀ x ∈ l, (0 ≤ x.1 ∧ x.1 < 256) ∧ 0 ≤ x.2 ∧ x.2 < 256) (hx : evs e xs = some [.slice a n cp])
    (hK : ∀ b s aN m cN aS cS nums sts g', Le g g' → Act s 60 → Rec s nums sts → m ≤ 61 → K (.tuple [ptr b, .slice aN m cN, .slice aS m cS, .bool true].toArray) (tr b s :: sl 3 1 aN m cN (ints nums) :: sl 9 1 aS m cS (strs sts) :: own) g') :
    OpOk (fnCx Try.prog fid N F0 g0 Post) D (.call { callee := .value (.func 13), args := xs.toArray, argTypes := ats }) ty e own g K := by
  refine OpOk.callV (f := 13) (fl := []) (cl := []) rfl hx (fun F => acted_ok F g hl hr) .nil ?_
  rintro v own' g' hle ⟨b, s, aN, m, cN, aS, cS, nums, sts, rfl, rfl, h1, h2, h3⟩
  exact hK b s aN m cN aS cS nums sts g' hle h1 h2 h3
theorem c_undoC (hx : evs e xs = some [ptr b]) [ht : UpT b own s h] (hs : s.Ok) (hC : stC s.es s.cur.p = k) (hT : s.stp s.cur.p = s') (hK : ∀ g', Le g g' → K (.tuple [.string (stS s.es s.cur.p), .int .i64 k].toArray) (h s') g') :
    OpOk (fnCx Try.prog fid N F0 g0 Post) D (.call { callee := .value (.func 15), args := xs.toArray, argTypes := ats }) ty e own g K := by subst hC; subst hT; exact c_undo hx hs hK
theorem c_redoC (hx : evs e xs = some [ptr b]) [ht : UpT b own s h] (hs : s.Ok) (hC : stC s.es s.rp = k) (hT : s.stp s.rp = s') (hK : ∀ g', Le g g' → K (.tuple [.string (stS s.es s.rp), .int .i64 k].toArray) (h s') g') :
    OpOk (fnCx Try.prog fid N F0 g0 Post) D (.call { callee := .value (.func 16), args := xs.toArray, argTypes := ats }) ty e own g K := by subst hC; subst hT; exact c_redo hx hs hK
theorem c_goC {n : Int} (hx : evs e xs = some [ptr b, .int .i64 n]) [ht : UpT b own s h] (hs : s.Ok) (hC : stC s.es n = k) (hK : ∀ g', Le g g' → K (.tuple [.string (stS s.es n), .int .i64 k].toArray) (h (s.goT n)) g') :
    OpOk (fnCx Try.prog fid N F0 g0 Post) D (.call { callee := .value (.func 18), args := xs.toArray, argTypes := ats }) ty e own g K := by subst hC; exact c_go hx hs hK
theorem c_doG {st note : ByteArray} {tick : Int} (hx : evs e xs = some [ptr b, .string st, .string note, .int .i64 tick]) [ht : UpT b own s h] (hs : s.Ok) (hC : s.doC st note tick = 0) (hK : ∀ g', Le g g' → K (.tuple [.int .i64 s.es.length, .int .i64 0].toArray) (h (s.put st note tick)) g') :
    OpOk (fnCx Try.prog fid N F0 g0 Post) D (.call { callee := .value (.func 17), args := xs.toArray, argTypes := ats }) ty e own g K := by
  refine c_doE hx hs (St.do_good hC).2.symm hC ?_
  rw [← (St.do_good hC).1]
  exact hK
theorem c_nowE {n : Int} {t : ByteArray} (hx : evs e xs = some [ptr b]) [ht : TkT b own s r] (hs : s.Ok) (h1 : s.now = n) (h2 : s.cur.st = t) (hK : ∀ g', Le g g' → K (.tuple [.int .i64 n, .string t].toArray) own g') :
    OpOk (fnCx Try.prog fid N F0 g0 Post) D (.call { callee := .value (.func 14), args := xs.toArray, argTypes := ats }) ty e own g K := by subst h1; subst h2; exact c_now hx hs hK
end
/-! ### Up and down again: plain laws -/
theorem Leads.get {fav : Int → Option Int} : ∀ {l : List Int} {i : Nat} {x y : Int}, Leads fav l → l[i]? = some x → l[i + 1]? = some y → fav y = some x
  | [], _, _, _, _, h, _ => by simp at h
  | [a], 0, _, _, _, _, h => by simp at h
  | [a], i + 1, _, _, _, h, _ => by simp at h
  | a :: b :: l, 0, x, y, hl, h1, h2 => by
    simp at h1 h2
    subst h1; subst h2; exact hl.1
  | a :: b :: l, i + 1, x, y, hl, h1, h2 => Leads.get (l := b :: l) hl.2 (by simpa using h1) (by simpa using h2)
theorem par_neg {es : List En} {n : Int} (h : n < 0) : par es n = -1 := by rw [par, ent, if_neg (by omega)]
/-- k times to the parent. -/
def climb (es : List En) : Nat → Int → Int
  | 0, n => n
  | k + 1, n => climb es k (par es n)
theorem climb_neg {es : List En} : ∀ (k : Nat) (n : Int), n < 0 → climb es k n < 0
  | 0, n, h => h
  | k + 1, n, h => by rw [climb, par_neg h]; exact climb_neg k (-1) (by omega)
theorem climb_par {es : List En} (hw : Wf es) {k : Nat} {n w : Int} (h : climb es (k + 1) n = w) (hw0 : 0 ≤ w) (hn : inE es n) : inE es (par es n) := by
  have h1 : 0 ≤ par es n := by
    rcases Int.lt_or_le (par es n) 0 with h1 | h1
    · rw [climb] at h
      have := climb_neg (es := es) k _ h1
      omega
    · exact h1
  exact ⟨h1, by have := hw.par_lt hn.1; have := hn.2; omega⟩
theorem way_root {es : List En} (hw : Wf es) {n : Int} (h0 : inE es n) (hp : ¬ inE es (par es n)) : up es n = [n] := by
  rw [up_pos hw h0.1, up_neg (by
    have := hw.par_lt h0.1
    have := h0.2
    rcases Int.lt_or_le (par es n) 0 with h1 | h1
    · exact h1
    · exact absurd ⟨h1, by omega⟩ hp)]
theorem par_eq_cur {s : St} {n : Int} (hn : inE s.es n) : (s.mv n).cur.p = par s.es n := by
  obtain ⟨e, he⟩ := ent_in hn
  rw [St.mv_cur he, par_of he]
theorem rp_of {s : St} {n m : Int} (h : s.fav n = some m) : (s.mv n).rp = m := by
  show ((s.mv n).fav (s.mv n).now).getD (-1) = m
  show (s.fav n).getD (-1) = m
  rw [h]; rfl
theorem new_ne (k : Nat) : ¬ ({ data := #[110, 101, 119] } : ByteArray) = lett k := by
  intro h
  have := congrArg ByteArray.size h
  have h1 : ({ data := #[110, 101, 119] } : ByteArray).size = 3 := rfl
  have h2 : (lett k).size = 1 := rfl
  omega
end Go.Proofs.Ytemgdeknjnlifaa
