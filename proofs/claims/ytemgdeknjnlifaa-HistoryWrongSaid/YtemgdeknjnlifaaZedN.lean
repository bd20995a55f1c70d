/- What is owned is lent to a function that only reads it. -/
import Derived.Test.YtemgdeknjnlifaaZedM
namespace Go.Zed
open Go
variable {c : Cx} {k k' : List Item} {D D' : List Deferred} {e e' : List (Nat × Value)} {own own' : List HProp} {g g' : Img} {ty : TypeId} {K : Value → List HProp → Img → Prop}
theorem R.unstar {L : List HProp} (h : R c k D e (L ++ own) g) : R c k D e (star L :: own) g := fun hle tmps w hf hh => h hle tmps w hf hh.unstar
theorem R.toStar {L : List HProp} (h : R c k D e (star L :: own) g) : R c k D e (L ++ own) g := fun hle tmps w hf hh => h hle tmps w hf hh.toStar
/-- What L owns lies in g. -/
def Frz (L : List HProp) (g : Img) : Prop := ∃ fr, Sat L fr ∧ ∀ p ∈ fr, g.m p.1 = some p.2
theorem Frz.mono {L : List HProp} (h : Frz L g) (hl : Le g g') : Frz L g' := by
  obtain ⟨fr, hs, h⟩ := h
  exact ⟨fr, hs, fun p hp => hl.1 _ _ (h p hp)⟩
theorem Frz.append {A B : List HProp} (h : Frz (A ++ B) g) : Frz A g ∧ Frz B g := by
  obtain ⟨fr, hs, h⟩ := h
  obtain ⟨f1, f2, rfl, h1, h2⟩ := Sat.append.1 hs
  exact ⟨⟨f1, h1, fun p hp => h p (List.mem_append_left _ hp)⟩, ⟨f2, h2, fun p hp => h p (List.mem_append_right _ hp)⟩⟩
theorem Frz.cons {p : HProp} {L : List HProp} (h : Frz (p :: L) g) : Frz [p] g ∧ Frz L g := Frz.append (A := [p]) h
theorem Frz.cel {b T : Nat} {cs : List Value} (h : Frz [cel b T cs] g) : g.m b = some (.cells cs.toArray T (0, 0)) := by
  obtain ⟨fr, ⟨f1, f2, rfl, rfl, h2⟩, h⟩ := h
  exact h (b, _) (by simp)
theorem Frz.sl {T sz n cap : Nat} {a : Option Addr} {es : List (List Value)} (h : Frz [sl T sz a n cap es] g) : Sl g sz a n es := by
  obtain ⟨fr, ⟨f1, f2, rfl, ⟨hn, hl, hs⟩, h2⟩, h⟩ := h
  rcases hs with ⟨ha, h0, _, _⟩ | ⟨b, sp, ha, _, _, _, hf⟩
  · have : es = [] := List.eq_nil_of_length_eq_zero (by omega)
    subst this; subst h0; exact .nil
  · subst hf
    refine ⟨hn, hl, fun i x hx => ⟨b, 0, ha, _, T, _, h _ (List.mem_append_left _ (List.mem_singleton.2 rfl)), fun j v hv => ?_⟩⟩
    have := look_flat (sp := sp) hl hx j v hv
    simpa using this
theorem Frz.star {L : List HProp} (h : Frz [star L] g) : Frz L g := by
  obtain ⟨fr, ⟨f1, f2, rfl, h1, h2⟩, h⟩ := h
  exact ⟨f1, h1, fun p hp => h p (List.mem_append_left _ hp)⟩
theorem Frz.ex {φ : List HProp → Prop} (h : Frz [ex φ] g) : ∃ L, φ L ∧ Frz L g := by
  obtain ⟨fr, ⟨f1, f2, rfl, ⟨L, hL, h1⟩, h2⟩, h⟩ := h
  exact ⟨L, hL, f1, h1, fun p hp => h p (List.mem_append_left _ hp)⟩

def frzF : Frag → Img → Img
  | [], g => g
  | p :: fr, g => frzF fr { g with m := fun x => if x = p.1 then some p.2 else g.m x }
theorem Good.frzF : ∀ {fr fr2 : Frag} {g : Img} {w : World}, Good g (fr ++ fr2) w → Good (frzF fr g) fr2 w ∧ Le g (frzF fr g) ∧ (∀ p ∈ fr, (frzF fr g).m p.1 = some p.2)
  | [], fr2, g, w, h => ⟨h, Le.refl g, by simp⟩
  | p :: fr, fr2, g, w, h => by
    have hh : Holds [blk p.1 p.2] (fr ++ fr2) g w := ⟨[p], ⟨[p], [], rfl, rfl, rfl⟩, h⟩
    obtain ⟨hf, hle⟩ := hh.freeze
    obtain ⟨f0, hs0, hg⟩ := hf
    obtain rfl : f0 = [] := hs0
    obtain ⟨h1, h2, h3⟩ := Good.frzF (fr := fr) (fr2 := fr2) hg
    refine ⟨h1, hle.trans h2, fun q hq => ?_⟩
    rcases List.mem_cons.1 hq with rfl | hq
    · exact h2.1 _ _ (if_pos rfl)
    · exact h3 q hq
/-- Blocks taken back. -/
def back (fr : Frag) (g : Img) : Img := { g with m := fun x => if x ∈ fr.map (·.1) then none else g.m x }
theorem Fc.lend {P : Program} {f : FuncId} {args : Array Value} {L : List HProp} {Q : Value → List HProp → Prop} (h : ∀ F g1, Le g g1 → Frz L g1 → Fc P f args own F g1 (fun v own' _ => Q v own')) (F : Frag) :
    Fc P f args (L ++ own) F g (fun v own' _ => ∃ o2, own' = L ++ o2 ∧ Q v o2) := by
  intro w hw
  obtain ⟨fr, hs, hg⟩ := hw
  obtain ⟨f1, f2, rfl, h1, h2⟩ := Sat.append.1 hs
  rw [List.append_assoc] at hg
  obtain ⟨k1, k2, k3⟩ := Good.frzF hg
  refine (h F (frzF f1 g) k2 ⟨f1, h1, k3⟩ w ⟨f2, h2, k1⟩).mono ?_
  rintro e w' ⟨v, own', g', rfl, hle', hQ, ⟨f3, hs3, hg3⟩⟩
  have hnd : (f1.map (·.1)).Nodup := by
    have := hg.2.2.1
    rw [List.map_append] at this
    exact (List.nodup_append.1 this).1
  have hin : ∀ p ∈ f1, g'.m p.1 = some p.2 := fun p hp => hle'.1 _ _ (k3 p hp)
  have hgn : ∀ p ∈ f1, g.m p.1 = none := fun p hp => (hg.2.1 p (List.mem_append_left _ hp)).2
  refine ⟨v, L ++ own', back f1 g', rfl, ⟨fun b o hb => ?_, (k2.trans hle').2⟩, ⟨own', rfl, hQ⟩, f1 ++ f3, Sat.append.2 ⟨f1, f3, rfl, h1, hs3⟩, ?_⟩
  · show (if b ∈ f1.map (·.1) then none else g'.m b) = some o
    rw [if_neg (fun hm => by
      obtain ⟨p, hp, rfl⟩ := List.mem_map.1 hm
      rw [hgn p hp] at hb; cases hb)]
    exact (k2.trans hle').1 b o hb
  · refine ⟨fun b o hb => ?_, fun p hp => ?_, ?_, hg3.2.2.2⟩
    · by_cases hm : b ∈ f1.map (·.1)
      · have : (back f1 g').m b = none := if_pos hm
        rw [this] at hb; cases hb
      · have : (back f1 g').m b = g'.m b := if_neg hm
        rw [this] at hb
        exact hg3.1 b o hb
    · rw [List.append_assoc] at hp
      rcases List.mem_append.1 hp with hp | hp
      · exact ⟨hg3.1 _ _ (hin p hp), if_pos (List.mem_map.2 ⟨p, hp, rfl⟩)⟩
      · have := hg3.2.1 p hp
        refine ⟨this.1, ?_⟩
        show (if p.1 ∈ f1.map (·.1) then none else g'.m p.1) = none
        split
        · rfl
        · exact this.2
    · rw [List.append_assoc, List.map_append, List.nodup_append]
      refine ⟨hnd, hg3.2.2.1, fun a ha b hb hab => ?_⟩
      obtain ⟨p, hp, rfl⟩ := List.mem_map.1 ha
      obtain ⟨q, hq, rfl⟩ := List.mem_map.1 hb
      have := (hg3.2.1 q hq).2
      rw [← hab, hin p hp] at this
      cases this
end Go.Zed
