import Derived.Test.YtemgdeknjnlifaaZ32
import Derived.Test.YtemgdeknjnlifaaZ19
import Derived.Test.YtemgdeknjnlifaaZ35
import Derived.KernelRfl
namespace Go.Proofs.Ytemgdeknjnlifaa
open Go Go.Zed
attribute [local irreducible] R RO RD OpOk QOk
set_option maxRecDepth 10000
set_option maxHeartbeats 4000000
theorem act_open {s : St} {i : Nat} (h : Act s i) (hi : i < 100) {n : Int} (hn : inE s.es n) : openC s.es n = 0 := by
  have hne := h.ok.wf.ne
  have hf := h.few
  have h1 : anyL s.es = false := by
    rw [anyL, List.any_eq_false]
    intro x hx
    obtain ⟨k, hk, hs⟩ := h.lt x hx
    rw [hs, h.note x hx, lett_lng k hk]; decide
  have h2 : rootBad s.es n = false := by
    have hr := h.root
    rw [show (0 : Int) = ((0 : Nat) : Int) from rfl, ent_nat] at hr
    rw [rootBad, hr, decide_eq_true hn.1, decide_eq_true hn.2]; rfl
  have h3 : anyBad s.es = false := by
    rw [anyBad, List.any_eq_false]
    intro j hj hb
    have hjl := List.mem_range.1 hj
    obtain ⟨x, hx⟩ : ∃ x, s.es[j]? = some x := ⟨_, List.getElem?_eq_getElem hjl⟩
    rw [badE_ok hx fun hj0 => ?_] at hb
    · cases hb
    · have hw := h.ok.wf.above j x hx hj0
      refine ⟨hw.1, hw.2, fun q hq => ?_⟩
      have := h.ord j x q (by rw [ent_nat]; exact hx) hq
      exact ⟨by omega, fun e => this.1 e.symm⟩
  rw [openC, if_neg (by omega), h1, h2, h3]; rfl
theorem openS_ok {s : St} (h : s.Ok) {n : Int} (hn : inE s.es n) : (openS s.es n).Ok := ⟨h.wf, hn, h.few⟩
section
variable {c : Cx} {D : List Deferred} {e : List (Nat × Value)} {own B r : List HProp} {g : Img} {ty : TypeId} {K : Value → List HProp → Img → Prop} {xs : List Operand} {ats : Array TypeId} {fid N b : Nat} {F0 : Frag} {g0 : Img} {Post : Value → List HProp → Img → Prop} {s : St} {h : St → List HProp}
theorem c_openOk {a : Option Addr} {n cp : Nat} {es : List En} {now : Int} (hs : Sl g 4 a n (es.map En.cells)) (hC : openC es now = 0) (hx : evs e xs = some [.slice a n cp, .int .i64 now])
    (hK : ∀ b g', Le g g' → K (.tuple [ptr b, .int .i64 0].toArray) (tr b (openS es now) :: own) g') :
    OpOk (fnCx Try.prog fid N F0 g0 Post) D (.call { callee := .value (.func 27), args := xs.toArray, argTypes := ats }) ty e own g K := by
  refine OpOk.callV (f := 27) (fl := []) (cl := []) rfl hx (fun F => open_ok F g hs now) .nil ?_
  rintro v own' g' hle h
  rw [if_pos hC] at h
  obtain ⟨b, rfl, rfl⟩ := h
  exact hK b g' hle
theorem c_openBad {a : Option Addr} {n cp : Nat} {es : List En} {now k : Int} (hs : Sl g 4 a n (es.map En.cells)) (hC : openC es now = k) (hk : k ≠ 0) (hx : evs e xs = some [.slice a n cp, .int .i64 now])
    (hK : ∀ g', Le g g' → K (.tuple [.pointer none, .int .i64 k].toArray) own g') :
    OpOk (fnCx Try.prog fid N F0 g0 Post) D (.call { callee := .value (.func 27), args := xs.toArray, argTypes := ats }) ty e own g K := by
  subst hC
  refine OpOk.callV (f := 27) (fl := []) (cl := []) rfl hx (fun F => open_ok F g hs now) .nil ?_
  rintro v own' g' hle h
  rw [if_neg hk] at h
  obtain ⟨rfl, rfl⟩ := h
  exact hK g' hle
theorem c_doB {st note : ByteArray} {tick k : Int} (hx : evs e xs = some [ptr b, .string st, .string note, .int .i64 tick]) [ht : UpT b own s h] (hs : s.Ok) (hC : s.doC st note tick = k) (hk : ¬ k = 0) (hK : ∀ g', Le g g' → K (.tuple [.int .i64 0, .int .i64 k].toArray) (h s) g') :
    OpOk (fnCx Try.prog fid N F0 g0 Post) D (.call { callee := .value (.func 17), args := xs.toArray, argTypes := ats }) ty e own g K := by
  refine c_doE hx hs (St.do_bad hC hk).2.symm hC ?_
  rw [← (St.do_bad hC hk).1]
  exact hK
end
theorem c_saveE {D : List Deferred} {e : List (Nat × Value)} {own r : List HProp} {g : Img} {ty : TypeId} {K : Value → List HProp → Img → Prop} {xs : List Operand} {ats : Array TypeId} {fid N b : Nat} {F0 : Frag} {g0 : Img} {Post : Value → List HProp → Img → Prop} {s : St} {n : Int} {es : List En} (hx : evs e xs = some [ptr b]) [ht : TkT b own s r] (hs : s.Ok) (h1 : s.now = n) (h2 : s.es = es) (hK : ∀ a m cp g', Le g g' → K (.tuple [.slice a m cp, .int .i64 n].toArray) (sl 45 4 a m cp (es.map En.cells) :: own) g') :
    OpOk (fnCx Try.prog fid N F0 g0 Post) D (.call { callee := .value (.func 19), args := xs.toArray, argTypes := ats }) ty e own g K := by
  subst h1; subst h2; exact c_save hx hs hK
theorem leads_up {E : List En} {f : Int → Option Int} {N : Int} (hw : Wf E) (hN : 0 ≤ N) (h : Leads f (up E N)) (hp : 0 ≤ par E N) : f (par E N) = some N := by
  rw [up_pos hw hN, up_pos hw hp] at h
  exact h.1
end Go.Proofs.Ytemgdeknjnlifaa
