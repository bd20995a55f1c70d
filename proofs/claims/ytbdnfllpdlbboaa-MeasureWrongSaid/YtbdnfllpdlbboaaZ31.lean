import Derived.Test.YtbdnfllpdlbboaaZ29
namespace Go.Proofs.Ytbdnfllpdlbboaa
open Go Go.Zed
set_option maxRecDepth 10000
set_option maxHeartbeats 4000000
section
variable {P : Program} {t el : TypeId} {x y : Operand} {e : List (Nat × Value)} {g : Img} {ty : TypeId}
theorem QOk.sliceTo {kk : IntKind} {a : Option Addr} {n cap sz by_ : Nat} {zl : List Value} {i : Int} [hT : TD P t (.slice el)] [hS : TY P el sz by_ zl] (hx : ev e x = some (.slice a n cap)) (hy : ev e y = some (.int kk i)) (hi : 0 ≤ i ∧ i ≤ cap) :
    QOk P (.slice t x none (some y) none) ty e [] g (.slice a i.toNat cap) := by
  intro _ _ _ w hf _ o ho _
  have ha : ∀ a : Option Addr, Option.map (fun x => x.add 0) a = a := fun a => by cases a <;> simp [Addr.add]
  simp [execOp, ho, hf.ev (by simp [Op.operands]) hx, hf.ev (by simp [Op.operands]) hy, Instr.sliceAt, Instr.slice, Instr.sliceBounds, Instr.sliceBound, asIntOf, hT.run, hS.run, hi, ha]
end
theorem goals_skip {ws ws2 : List Wp} {t : PT} (h : skipW ws = skipW ws2) : goals ws t = goals ws2 t := by
  rw [goals_gls, goals_gls, gls, gls, h, goalsF, goalsF, h]
theorem skip_twice (ws : List Wp) : skipW (ws ++ ws) = skipW ws := by
  funext x; rw [skipW, skipW, List.any_append, Bool.or_self]
theorem skip_rev (ws : List Wp) : skipW ws.reverse = skipW ws := by
  funext x; rw [skipW, skipW, List.any_reverse]
theorem skip_more {ws : List Wp} {w : Wp} : ∀ x, skipW ws x = true → skipW (ws ++ [w]) x = true := fun x h => by
  rw [skipW] at h ⊢; rw [List.any_append, h]; rfl
/-- Places of wrong steps. -/
structure Wrg (g : Img) (t : PT) (ws : List Wp) : Prop where
  el : ∀ w ∈ ws, Sl g 1 w.a w.n (ints w.l) ∧ w.l.length ≤ 12 ∧ (atP t w.l).isSome = true
theorem Wrg.mono {g g' : Img} {t : PT} {ws : List Wp} (h : Wrg g t ws) (hl : Le g g') : Wrg g' t ws := ⟨fun w hw => ⟨(h.el w hw).1.mono hl, (h.el w hw).2⟩⟩
theorem Wrg.chk {g : Img} {t : PT} {ws : List Wp} (h : Wrg g t ws) (hm : msr t = true) : chk t ws = 0 := by
  rw [Ytbdnfllpdlbboaa.chk, hm, if_pos rfl, if_pos (List.all_eq_true.2 fun w hw => (h.el w hw).2.2)]
theorem Wrg.pl {g : Img} {t : PT} {ws : List Wp} (h : Wrg g t ws) {a : Option Addr} {n : Nat} (hs : Sl g 1 a n (ws.map fun w => [.slice w.a w.n w.cap])) : Places g a n ws := ⟨hs, fun w hw => (h.el w hw).1⟩
theorem Wrg.append {g : Img} {t : PT} {a b : List Wp} (h : Wrg g t a) (h2 : Wrg g t b) : Wrg g t (a ++ b) := ⟨fun w hw => (List.mem_append.1 hw).elim (h.el w) (h2.el w)⟩
theorem Wrg.one {g : Img} {t : PT} {ws : List Wp} : ∀ u ∈ (ws.map fun w => [Value.slice w.a w.n w.cap]).flatten, u.oneCell' = true := by
  intro u hu
  simp only [List.mem_flatten, List.mem_map] at hu
  obtain ⟨x, ⟨w, _, rfl⟩, hu⟩ := hu
  simp at hu; subst hu; rfl
theorem progress_lend {g : Img} {t : PT} {ws : List Wp} {a : Option Addr} {n cap : Nat} (hr : Rep g t) (hw : Wrg g t ws) (hm : msr t = true) (hn : ws.length ≤ 6) (F : Frag) :
    Fc Try.prog 17 #[.agg t.h.cells.toArray, .slice a n cap] [sl 37 1 a n cap (ws.map fun w => [.slice w.a w.n w.cap])] F g (fun v own' _ => own' = [sl 37 1 a n cap (ws.map fun w => [.slice w.a w.n w.cap])] ∧ v = .tuple [.int .i64 (leftw (goals ws t)), .int .i64 0].toArray) := by
  have := Fc.lend (P := Try.prog) (f := 17) (args := #[.agg t.h.cells.toArray, .slice a n cap]) (L := [sl 37 1 a n cap (ws.map fun w => [.slice w.a w.n w.cap])]) (own := []) (g := g) (Q := fun v o => o = [] ∧ v = .tuple [.int .i64 (leftw (goals ws t)), .int .i64 0].toArray) (fun F g1 hle hf => by
    have := progress_ok F g1 t (hr.mono hle) (a := a) (n := n) (cap := cap) ((hw.mono hle).pl hf.sl) (by omega) (fun w hw' => by have := (hw.el w hw').2.1; omega)
    rw [hw.chk hm, if_pos rfl, prg_L] at this
    exact this) F
  rw [List.append_nil] at this
  refine Fc.entPost this ?_
  rintro v o g' ⟨o2, rfl, rfl, rfl⟩
  exact ⟨_, by rw [List.append_nil]; exact .refl _, rfl, rfl⟩
section
variable {c : Cx} {g : Img} {D : List Deferred} {ty : TypeId} {e : List (Nat × Value)} {own r : List HProp} {K : Value → List HProp → Img → Prop} {xs : List Operand} {ats : Array TypeId} {fid N : Nat} {F0 : Frag} {g0 : Img} {Post : Value → List HProp → Img → Prop}
theorem c_progressW {t : PT} {ws : List Wp} {a : Option Addr} {n cap : Nat} {B : List HProp} {es : List (List Value)} (hx : evs e xs = some [.agg t.h.cells.toArray, .slice a n cap]) (hr : Rep g t) (hw : Wrg g t ws) (hm : msr t = true) (hn : ws.length ≤ 6) (hes : (ws.map fun w => [.slice w.a w.n w.cap]) = es) (hp : Pick own [sl 37 1 a n cap es] B)
    (hK : ∀ g2, Le g g2 → K (.tuple [.int .i64 (leftw (goals ws t)), .int .i64 0].toArray) (sl 37 1 a n cap es :: B) g2) :
    OpOk (fnCx Try.prog fid N F0 g0 Post) D (.call { callee := .value (.func 17), args := xs.toArray, argTypes := ats }) ty e own g K := by
  subst hes
  refine OpOk.callV (f := 17) (fl := []) (cl := []) rfl hx (fun F => progress_lend hr hw hm hn F) hp ?_
  rintro v own' g' hle ⟨rfl, rfl⟩
  exact hK g' hle
theorem c_progressT {t : PT} (hx : evs e xs = some [.agg t.h.cells.toArray, .slice none 0 0]) (hr : Rep g t) (hm : msr t = true)
    (hK : ∀ g2, Le g g2 → K (.tuple [.int .i64 (leftw (goals [] t)), .int .i64 0].toArray) own g2) :
    OpOk (fnCx Try.prog fid N F0 g0 Post) D (.call { callee := .value (.func 17), args := xs.toArray, argTypes := ats }) ty e own g K := by
  refine c_progress (ws := []) hx hr pl_nil (by simp) (by simp) (fun h2 => absurd (chk_of_msr hm) h2) fun g2 hle _ => ?_
  rw [prg_L]
  exact hK g2 hle
theorem c_goalsW {t : PT} {ws : List Wp} {a : Option Addr} {n cap : Nat} {l : List (List Int × Int)} (hx : evs e xs = some [.agg t.h.cells.toArray, .slice a n cap]) (hr : Rep g t) (hw : Wrg g t ws) (hm : msr t = true) (hn : ws.length ≤ 12) (hs : Sl g 1 a n (ws.map fun w => [.slice w.a w.n w.cap])) (hl : goals ws t = l)
    (hK : ∀ g2 ao no co gl, Le g g2 → Sl g2 2 ao no (gl.map Gl.cells) → GlRep g2 gl l → K (.tuple [.slice ao no co, .int .i64 0].toArray) own g2) :
    OpOk (fnCx Try.prog fid N F0 g0 Post) D (.call { callee := .value (.func 11), args := xs.toArray, argTypes := ats }) ty e own g K := by
  refine c_goals (ws := ws) hx hr (hw.pl hs) (by omega) (fun w hw' => by have := (hw.el w hw').2.1; omega) (fun h2 => absurd (hw.chk hm) h2) fun g2 ao no co gl hle _ h1 h2 => ?_
  rw [hl] at h2
  exact hK g2 ao no co gl hle h1 h2
end
theorem sl_take {g : Img} {a : Option Addr} {n m : Nat} {l : List Int} {f : Int → List Value} (h : Sl g 1 a n (l.map f)) (hm : m ≤ n) : Sl g 1 a m ((l.take m).map f) := by
  have hn : n = l.length := by simpa using h.len
  refine ⟨by simp; omega, fun x hx => h.el x ?_, fun i x hx => h.at_ i x ?_⟩
  · rw [List.map_take] at hx; exact List.mem_of_mem_take hx
  · rw [List.map_take, List.getElem?_take] at hx
    split at hx
    · exact hx
    · cases hx
theorem atP_snoc : ∀ (l : List Int) (t q : PT) (i : Int), atP t l = some q → atP t (l ++ [i]) = (if 0 ≤ i then q.sub[i.toNat]? else none)
  | [], t, q, i, h => by
    rw [atP] at h
    obtain rfl := Option.some.inj h
    rw [List.nil_append, atP]
    cases (if 0 ≤ i then t.sub[i.toNat]? else none) with
    | none => rfl
    | some q => rfl
  | j :: l, t, q, i, h => by
    rw [List.cons_append, atP]
    rw [atP] at h
    cases h1 : (if 0 ≤ j then t.sub[j.toNat]? else none) with
    | none => rw [h1] at h; cases h
    | some q' => rw [h1] at h; exact atP_snoc l q' q i h
theorem gls_cut {g : Img} {t : PT} {p : Pf} (hd : Dp g t p) (ws : List Wp) : gls [] (pfS (cutP (ws.map (·.l)) p)) = goals ws t := by
  rw [gls_L, goals_gls, hd.st, gls_L]
  have := cut_gls (ws.map (·.l)) p []
  rw [List.append_nil] at this
  exact this
end Go.Proofs.Ytbdnfllpdlbboaa
