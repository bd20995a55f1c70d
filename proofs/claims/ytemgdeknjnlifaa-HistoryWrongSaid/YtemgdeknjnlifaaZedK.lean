/- From a contract to the row's frame. -/
import Derived.Test.YtemgdeknjnlifaaZedH
import Derived.ProofKit
namespace Go.Zed
open Go

/-- All that lies in a world, to lie still. -/
def imgOf (W : World) : Img := ⟨fun b => W.heap[b]?, W.os, W.output⟩
theorem holds_imgOf (W : World) : Holds [] [] (imgOf W) W := ⟨[], rfl, fun _ _ h => h, by simp, by simp, rfl, rfl⟩
/-- What lay in a world lies in the other one. -/
structure Kept (W W' : World) : Prop where
  blk : ∀ (b : Nat) (o : Obj), W.heap[b]? = some o → W'.heap[b]? = some o
  os : W'.os = W.os
  out : W'.output = W.output
theorem Kept.of {W W' : World} {own : List HProp} {F : Frag} {g' : Img} (hl : Le (imgOf W) g') (hh : Holds own F g' W') : Kept W W' := by
  obtain ⟨fr, _, hg⟩ := hh
  exact ⟨fun b o h => hg.1 b o (hl.1 b o h), hg.2.2.2.1.trans hl.2.1, hg.2.2.2.2.trans hl.2.2⟩
theorem Kept.block {W W' : World} (h : Kept W W') {b : Nat} (hb : b < W.heap.size) : W'.heap[b]? = W.heap[b]? := by
  have : W.heap[b]? = some (W.heap[b]'hb) := by simp [hb]
  rw [this]; exact h.blk b _ this
theorem Kept.frame {W W' : World} (h : Kept W W') (may : MemPlace → Prop) : W.keptBut W' may := by
  refine ⟨h.os, h.out, fun i hi => ?_⟩
  rw [h.block hi]
  split <;> simp_all
theorem Kept.same {W W' : World} (h : Kept W W') {p : MemPlace} (hp : p.block < W.heap.size) : W.sameAt W' p := by
  cases p with
  | cell b o => exact World.cell?_of_block (w := W) (h.block hp)
  | map b => exact h.block hp
theorem Kept.trod {H : Type} {enc : TypeId × Value → H} {P : Program} {t : TypeId} (hl : laidOutB P = true) (hr : P.readableRec t = true) (hrow : t < P.types.size) {W W' : World} {v : Value} {d : DataW H} {ps : List MemPlace}
    (h : DataW.Trod enc P W 0 (fun _ => true) true t v d ps) (hb : Kept W W') (hlt : ∀ x ∈ ps, x.block < W.heap.size) :
    DataW.Trod enc P W' 0 (fun b => decide (b < W.heap.size)) true t v d ps :=
  WideElems.Trod_stays hl hr hrow h (fun x hx => hb.same (hlt x hx)) (fun x hx => by simpa using hlt x hx)
theorem Fc.run {P : Program} {f : FuncId} {args : Array Value} {W : World} {Post : Value → List HProp → Img → Prop} (h : Fc P f args [] [] (imgOf W) Post) :
    Calls P f args W fun e W' => ∃ v own' g', e = .returned v ∧ Kept W W' ∧ Le (imgOf W) g' ∧ Post v own' g' ∧ Holds own' [] g' W' :=
  (h W (holds_imgOf W)).mono fun _ _ ⟨v, own', g', he, hle, hP, hh⟩ => ⟨v, own', g', he, .of hle hh, hle, hP, hh⟩
end Go.Zed
