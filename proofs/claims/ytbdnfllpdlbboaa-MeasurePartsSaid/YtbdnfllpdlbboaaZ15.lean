import Derived.Test.YtbdnfllpdlbboaaZ13
import Derived.Test.YtbdnfllpdlbboaaZ14
namespace Go.Proofs.Ytbdnfllpdlbboaa
open Go Go.Zed
attribute [local irreducible] R RO RD OpOk QOk
set_option maxRecDepth 10000
set_option maxHeartbeats 4000000
theorem encP_len (p : Pf) : (encP p).length = 8 := by
  obtain ⟨r, ⟨o, nm, ts, fs⟩, lab, ss, ms⟩ := p
  rw [encP, encF]; rfl
theorem vals_len {x : List DV} {p : Pf} (h : shL x = encP p) : (vals x).length = 8 := by
  rw [vals, List.length_map, ← encP_len p, ← h, shL_map, List.length_map]
theorem rpL_zero {g : Img} : RpL g [.at (.string { data := #[] }), .at (.int .u8 0), .at (.string { data := #[] }), .sl 102 3 none 0 0 [], .sl 26 4 none 0 0 [], .at (.int .i64 0), .sl 30 8 none 0 0 [], .sl 37 1 none 0 0 []] := by
  intro d hd
  simp only [List.mem_cons, List.not_mem_nil, or_false] at hd
  rcases hd with rfl | rfl | rfl | rfl | rfl | rfl | rfl | rfl
  all_goals first | exact .at _ rfl | exact .sl .nil (by simp) (by simp)
section
variable {c : Cx} {g : Img} {D : List Deferred} {ty : TypeId} {e : List (Nat × Value)} {own r : List HProp} {K : Value → List HProp → Img → Prop} {xs : List Operand} {ats : Array TypeId} {fid N : Nat} {F0 : Frag} {g0 : Img} {Post : Value → List HProp → Img → Prop}
theorem c_copiedC {x : List DV} (hC : CopyOk 50 g x) (hx : evs e xs = some [.agg (vals x).toArray])
    (hK : ∀ y, shL y = shL x → K (.agg (vals y).toArray) (ownL none y :: own) g) :
    OpOk (fnCx Try.prog fid N F0 g0 Post) D (.call { callee := .value (.func 50), args := xs.toArray, argTypes := ats }) ty e own g K := c_copied hx hC hK
end
theorem look_self {l : List Value} : Look l 0 l := fun j v hv => by simpa using hv
theorem setOk_all {l vs : List Value} (h : l.length = vs.length) : SetOk l 0 vs vs := ⟨by simp [← h], by omega⟩
/-! ### At -/
/-- What At answers. -/
def atR (p : Pf) (l : List Int) (v : Value) (own : List HProp) : Prop :=
  (msrS (pfS p) = false ∧ own = [] ∧ v = .tuple [.agg zPH.cells.toArray, .int .i64 2].toArray) ∨
  (msrS (pfS p) = true ∧ atPf p l = none ∧ own = [] ∧ v = .tuple [.agg zPH.cells.toArray, .int .i64 6].toArray) ∨
  (msrS (pfS p) = true ∧ ∃ q y, atPf p l = some q ∧ shL y = encP q ∧ own = [ownL none y] ∧ v = .tuple [.agg (vals y).toArray, .int .i64 0].toArray)
theorem atF_ok (F : Frag) (g : Img) {p : Pf} {x : List DV} (h : shL x = encP p) (hr : RpL g x) {a : Option Addr} {n cap : Nat} {l : List Int} (hl : Sl g 1 a n (ints l)) (hn : l.length ≤ 1000000000000) :
    Fc Try.prog 28 #[.agg (vals x).toArray, .slice a n cap] [] F g (fun v own' _ => atR p l v own') := by
  obtain ⟨t, hk, hrt, hst⟩ := Lk.ex g p x h hr
  rw [← hk.cells]
  have hm := msr_st t
  rw [hst] at hm
  refine Fc.of_body (args := [_, _]) Try.func28 rfl rfl ?_
  cases hb : msr t
  · repeat' (first | refine R.seq ?_ | refine R.skip ?_ | refine R.inBlock ?_ | refine R.block ?_ | refine R.condT rfl ?_ | refine R.condF rfl ?_ | refine R.exit rfl ?_ | refine R.label ?_ | (refine R.region (id := 0) ?_; all_goals (refine RO.ef rfl (OpOk.box rfl (fun b => ?_))); all_goals (refine RO.ef rfl (OpOk.alloc (fun b => ?_))); all_goals (refine RO.q0 rfl (QOk.assign rfl) rfl ?_); all_goals refine RO.nil ?_) | (refine R.region (id := 1) ?_; all_goals (first | refine RO.ld rfl rfl ?_ | refine RO.ldA rfl rfl ?_ | refine RO.ldL rfl rfl (by assumption) ?_ | refine RO.ldLA rfl rfl (by assumption) (by first | rfl | assumption) ?_ | refine RO.ldLW rfl rfl (by assumption) ?_ | refine RO.q0 rfl (QOk.ldM rfl (by assumption)) rfl ?_ | refine RO.q0 rfl (QOk.ldMA rfl (by assumption) (by first | rfl | assumption)) rfl ?_ | refine RO.q0 rfl (QOk.ldMW rfl (by assumption)) rfl ?_ | refine RO.q0 rfl (QOk.ldMWA rfl (by assumption)) rfl ?_ | refine RO.q0 rfl (QOk.ldM0 rfl (by assumption)) rfl ?_ | refine RO.q0 rfl (QOk.ldM0A rfl (by assumption)) rfl ?_ | refine RO.q0 rfl (QOk.loadMem0 rfl (by assumption)) rfl ?_); all_goals (refine RO.ef rfl (c_measurable rfl hrt (by assumption) (fun g2 hle => have hrt := hrt.mono hle; have hr := hr.mono hle; have hl := hl.mono hle; ?_))); all_goals (first | refine RO.q0 rfl (QOk.notT rfl) rfl ?_ | refine RO.q0 rfl (QOk.notF rfl) rfl ?_); all_goals refine RO.nil ?_) | (refine R.region (id := 2) ?_; all_goals (refine RO.q0 rfl (QOk.build rfl) rfl ?_); all_goals (first | refine RO.ef0 (OpOk.store rfl rfl rfl ?_) | refine RO.ef0 (OpOk.storeL rfl rfl rfl (by assumption) ?_) | refine RO.ef0 (OpOk.storeL rfl rfl (hone _ (by assumption)) (hset _ (by assumption)) ?_)); all_goals (refine RO.q0 rfl (QOk.assign rfl) rfl ?_); all_goals refine RO.nil ?_))
    exact R.ret0 Try.func28 rfl (.cA rfl (.tmp rfl .nil)) fun _ => .inl ⟨by rw [← hm, hb], rfl, rfl⟩
  · repeat' (first | refine R.seq ?_ | refine R.skip ?_ | refine R.inBlock ?_ | refine R.block ?_ | refine R.condT rfl ?_ | refine R.condF rfl ?_ | refine R.exit rfl ?_ | refine R.label ?_ | (refine R.region (id := 0) ?_; all_goals (refine RO.ef rfl (OpOk.box rfl (fun b => ?_))); all_goals (refine RO.ef rfl (OpOk.alloc (fun b => ?_))); all_goals (refine RO.q0 rfl (QOk.assign rfl) rfl ?_); all_goals refine RO.nil ?_) | (refine R.region (id := 1) ?_; all_goals (first | refine RO.ld rfl rfl ?_ | refine RO.ldA rfl rfl ?_ | refine RO.ldL rfl rfl (by assumption) ?_ | refine RO.ldLA rfl rfl (by assumption) (by first | rfl | assumption) ?_ | refine RO.ldLW rfl rfl (by assumption) ?_ | refine RO.q0 rfl (QOk.ldM rfl (by assumption)) rfl ?_ | refine RO.q0 rfl (QOk.ldMA rfl (by assumption) (by first | rfl | assumption)) rfl ?_ | refine RO.q0 rfl (QOk.ldMW rfl (by assumption)) rfl ?_ | refine RO.q0 rfl (QOk.ldMWA rfl (by assumption)) rfl ?_ | refine RO.q0 rfl (QOk.ldM0 rfl (by assumption)) rfl ?_ | refine RO.q0 rfl (QOk.ldM0A rfl (by assumption)) rfl ?_ | refine RO.q0 rfl (QOk.loadMem0 rfl (by assumption)) rfl ?_); all_goals (refine RO.ef rfl (c_measurable rfl hrt (by assumption) (fun g2 hle => have hrt := hrt.mono hle; have hr := hr.mono hle; have hl := hl.mono hle; ?_))); all_goals (first | refine RO.q0 rfl (QOk.notT rfl) rfl ?_ | refine RO.q0 rfl (QOk.notF rfl) rfl ?_); all_goals refine RO.nil ?_) | (refine R.region (id := 2) ?_; all_goals (refine RO.q0 rfl (QOk.build rfl) rfl ?_); all_goals (first | refine RO.ef0 (OpOk.store rfl rfl rfl ?_) | refine RO.ef0 (OpOk.storeL rfl rfl rfl (by assumption) ?_) | refine RO.ef0 (OpOk.storeL rfl rfl (hone _ (by assumption)) (hset _ (by assumption)) ?_)); all_goals (refine RO.q0 rfl (QOk.assign rfl) rfl ?_); all_goals refine RO.nil ?_) | (refine R.region (id := 3) ?_; all_goals (first | refine RO.ld rfl rfl ?_ | refine RO.ldA rfl rfl ?_ | refine RO.ldL rfl rfl (by assumption) ?_ | refine RO.ldLA rfl rfl (by assumption) (by first | rfl | assumption) ?_ | refine RO.ldLW rfl rfl (by assumption) ?_ | refine RO.q0 rfl (QOk.ldM rfl (by assumption)) rfl ?_ | refine RO.q0 rfl (QOk.ldMA rfl (by assumption) (by first | rfl | assumption)) rfl ?_ | refine RO.q0 rfl (QOk.ldMW rfl (by assumption)) rfl ?_ | refine RO.q0 rfl (QOk.ldMWA rfl (by assumption)) rfl ?_ | refine RO.q0 rfl (QOk.ldM0 rfl (by assumption)) rfl ?_ | refine RO.q0 rfl (QOk.ldM0A rfl (by assumption)) rfl ?_ | refine RO.q0 rfl (QOk.loadMem0 rfl (by assumption)) rfl ?_); all_goals (refine RO.q0 rfl (QOk.move rfl) rfl ?_); all_goals (refine RO.ef rfl (c_at rfl hrt ⟨hl, hn⟩ (fun q hat hq => ?_) (fun hat => ?_))); all_goals (refine RO.q0 rfl (QOk.move rfl) rfl ?_); all_goals (refine RO.q0 rfl (QOk.extract rfl rfl) rfl ?_); all_goals (refine RO.q0 rfl (QOk.extract rfl rfl) rfl ?_); all_goals (refine RO.ef rfl (OpOk.alloc (fun b => ?_))); all_goals (first | refine RO.ef0 (OpOk.store rfl rfl rfl ?_) | refine RO.ef0 (OpOk.storeL rfl rfl rfl (by assumption) ?_) | refine RO.ef0 (OpOk.storeL rfl rfl (hone _ (by assumption)) (hset _ (by assumption)) ?_)); all_goals (refine RO.q0 rfl (QOk.assign rfl) rfl ?_); all_goals refine RO.nil ?_) | (refine R.region (id := 4) ?_; all_goals (refine RO.q0 rfl (QOk.move rfl) rfl ?_); all_goals (first | refine RO.q0 rfl (QOk.notT rfl) rfl ?_ | refine RO.q0 rfl (QOk.notF rfl) rfl ?_); all_goals refine RO.nil ?_) | (refine R.region (id := 5) ?_; all_goals (refine RO.q0 rfl (QOk.build rfl) rfl ?_); all_goals (first | refine RO.ef0 (OpOk.store rfl rfl rfl ?_) | refine RO.ef0 (OpOk.storeL rfl rfl rfl (by assumption) ?_) | refine RO.ef0 (OpOk.storeL rfl rfl (hone _ (by assumption)) (hset _ (by assumption)) ?_)); all_goals (refine RO.q0 rfl (QOk.assign rfl) rfl ?_); all_goals refine RO.nil ?_))
    · rcases at_lk l h hr hk with ⟨h1, _⟩ | ⟨q', y, p', h1, h2, h3, h4, h5⟩
      · rw [hat] at h1; cases h1
      · rw [hat] at h1; cases h1
        have hC := copied_ok p' _ y h4 h5
        have hset : ∀ y', shL y' = shL y → SetOk zPH.cells 0 (vals y') (vals y') := fun y' hy => setOk_all (by rw [vals_len (hy.trans h4)]; rfl)
        have hone := fun y' (hy : shL y' = shL y) => shL_one hy (RpL.one h5)
        have hLen : ∀ y', shL y' = shL y → (vals y').length = 8 := fun y' hy => vals_len (hy.trans h4)
        clear hat hk hq hrt hr
        cases h3
        repeat' (first | refine R.seq ?_ | refine R.skip ?_ | refine R.inBlock ?_ | refine R.block ?_ | refine R.condT rfl ?_ | refine R.condF rfl ?_ | refine R.exit rfl ?_ | refine R.label ?_ | (refine R.region (id := 6) ?_; all_goals (first | refine RO.ld rfl rfl ?_ | refine RO.ldA rfl rfl ?_ | refine RO.ldL rfl rfl (by assumption) ?_ | refine RO.ldLA rfl rfl (by assumption) (by first | rfl | assumption) ?_ | refine RO.ldLW rfl rfl (by assumption) ?_ | refine RO.q0 rfl (QOk.ldM rfl (by assumption)) rfl ?_ | refine RO.q0 rfl (QOk.ldMA rfl (by assumption) (by first | rfl | assumption)) rfl ?_ | refine RO.q0 rfl (QOk.ldMW rfl (by assumption)) rfl ?_ | refine RO.q0 rfl (QOk.ldMWA rfl (by assumption)) rfl ?_ | refine RO.q0 rfl (QOk.ldM0 rfl (by assumption)) rfl ?_ | refine RO.q0 rfl (QOk.ldM0A rfl (by assumption)) rfl ?_ | refine RO.q0 rfl (QOk.loadMem0 rfl (by assumption)) rfl ?_); all_goals (refine RO.ef rfl (c_copiedC hC rfl (fun y hy => have : Len (vals y) 8 := Len.of (hLen y hy); ?_))); all_goals (first | refine RO.ef0 (OpOk.store rfl rfl rfl ?_) | refine RO.ef0 (OpOk.storeL rfl rfl rfl (by assumption) ?_) | refine RO.ef0 (OpOk.storeL rfl rfl (hone _ (by assumption)) (hset _ (by assumption)) ?_)); all_goals (refine RO.q0 rfl (QOk.assign rfl) rfl ?_); all_goals refine RO.nil ?_))
        exact R.retK Try.func28 rfl (.cellA rfl (look_self.reads (by (repeat (first | exact .here | apply Take.there)); (first | done | fail))) (hLen y hy) (.tmp rfl .nil)) (A := [ownL none y]) (by repeat (first | exact Pick.nil | apply Pick.cons (by (repeat (first | exact .here | apply Take.there)); (first | done | fail)))) fun _ =>
          .inr (.inr ⟨by rw [← hm, hb], p', y, h2, hy.trans h4, rfl, rfl⟩)
    · rcases at_lk l h hr hk with ⟨h1, h2⟩ | ⟨q', y, p', h1, _⟩
      · exact R.ret0 Try.func28 rfl (.cA rfl (.tmp rfl .nil)) fun _ => .inr (.inl ⟨by rw [← hm, hb], h2, rfl, rfl⟩)
      · rw [hat] at h1; cases h1
end Go.Proofs.Ytbdnfllpdlbboaa
