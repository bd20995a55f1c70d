/- Bytes turned into a string. -/
import Derived.Test.YtemgdeknjnlifaaZedW
import Derived.Laws.BytesString
namespace Go.Zed
open Go
variable {c : Cx} {D : List Deferred} {e : List (Nat × Value)} {own : List HProp} {g : Img} {ty : TypeId} {K : Value → List HProp → Img → Prop}
/-- The bytes of a list of numbers. -/
def bytesOf (ns : List Int) : ByteArray := ns.foldl (fun r n => r.push (UInt8.ofNat n.toNat)) ByteArray.empty
theorem bytesOf_size (ns : List Int) : (bytesOf ns).size = ns.length := by
  suffices ∀ (ns : List Int) (s : ByteArray), (ns.foldl (fun r n => r.push (UInt8.ofNat n.toNat)) s).size = s.size + ns.length by
    have := this ns ByteArray.empty
    rw [bytesOf, this]; simp
  intro ns
  induction ns with
  | nil => intro s; rfl
  | cons n ns ih =>
    intro s
    rw [List.foldl_cons, ih, ByteArray.size_push, List.length_cons]; omega
theorem OpOk.bytesStr {x : Operand} {s t el T b n cap : Nat} {cs : List Value} {r : List HProp} {ns : List Int} [hS : TD c.P s (.slice el)] [hE : TD c.P el (.int .u8)] [hT : TD c.P t .string]
    (hx : ev e x = some (.slice (some ⟨b, 0, none⟩) n cap)) [ht : Tk b own T cs r] (hc : cs = ns.map (Value.int .u8)) (hn : ns.length = n) (hK : K (.string (bytesOf ns)) own g) : OpOk c D (.convert s t x) ty e own g K := by
  refine .of_run (by simp) fun hle F tmps w hf hh => ⟨.string (bytesOf ns), own, g, w, Le.refl g, hK, hh, fun o ho hty => .inl ?_⟩
  have hb := (hh.perm ht.take.perm).blk
  have hl : (loadCells ⟨b, 0, none⟩ (ns.map (Value.int .u8)).length).run c.P w = .ok (ns.map (Value.int .u8)).toArray w := loadCells_run fun j v hv => by
    rw [add0, Nat.zero_add]
    subst hc
    simp only [World.cell?, hb]
    simpa using hv
  rw [List.length_map, hn] at hl
  have hr := run_bytesToString (P := c.P) w ⟨b, 0, none⟩ n cap ns hl
  simp [execOp, ho, hf.ev (by simp [Op.operands]) hx, convert, hS.run, hT.run, hE.run, hr, bytesOf]
end Go.Zed
