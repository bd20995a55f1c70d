import Derived.Test.YtemgdeknjnlifaaZ6
import Derived.KernelRfl
import Derived.Test.YtemgdeknjnlifaaZedU
namespace Go.Proofs.Ytemgdeknjnlifaa
open Go Go.Zed
set_option maxRecDepth 10000
theorem fields45 : (Try.prog.fieldsOf 45).toList.map (fun f => (f.name != "_", f.type, f.offset)) = [(true, 3, 0), (true, 3, 1), (true, 9, 2), (true, 9, 3)] := by kernel_rfl
instance : SQ Try.prog 45 := ⟨by kernel_rfl, by kernel_rfl, by kernel_rfl⟩
theorem flds45 (x y : En) : Flds Try.prog (Try.prog.fieldsOf 45).toList 0 x.cells y.cells (decide (x.p = y.p) && (decide (x.tick = y.tick) && ((x.note.toList == y.note.toList) && ((x.st.toList == y.st.toList) && true)))) := by
  have h := fields45
  obtain ⟨f1, l1, e1, h1, h⟩ := List.map_eq_cons_iff.1 h
  obtain ⟨f2, l2, e2, h2, h⟩ := List.map_eq_cons_iff.1 h
  obtain ⟨f3, l3, e3, h3, h⟩ := List.map_eq_cons_iff.1 h
  obtain ⟨f4, l4, e4, h4, h⟩ := List.map_eq_cons_iff.1 h
  obtain rfl := List.map_eq_nil_iff.1 h
  subst e4 e3 e2
  rw [e1]
  simp only [Prod.mk.injEq] at h1 h2 h3 h4
  exact .int (by rw [h1.2.1]; exact Try.underlying3) h1.1 h1.2.2 (.int (by rw [h2.2.1]; exact Try.underlying3) h2.1 h2.2.2 (.str (by rw [h3.2.1]; exact Try.underlying9) h3.1 h3.2.2 (.str (by rw [h4.2.1]; exact Try.underlying9) h4.1 h4.2.2 .nil)))
theorem neSame (x : En) : (!(decide (x.p = x.p) && (decide (x.tick = x.tick) && ((x.note.toList == x.note.toList) && ((x.st.toList == x.st.toList) && true))))) = false := by simp
theorem neSame' (x y : En) : (!(decide (x.p = y.p) && (decide (x.tick = y.tick) && ((x.note.toList == y.note.toList) && ((x.st.toList == y.st.toList) && true))))) = !decide (x = y) := by
  obtain ⟨p, t, n, s⟩ := x
  obtain ⟨p', t', n', s'⟩ := y
  simp only [bbeq, Bool.and_true, En.mk.injEq, Bool.decide_and]
end Go.Proofs.Ytemgdeknjnlifaa
