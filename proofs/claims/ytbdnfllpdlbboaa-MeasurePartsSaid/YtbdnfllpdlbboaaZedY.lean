/- Terms, formulas and proofs, as deep values. -/
import Derived.Test.YtbdnfllpdlbboaaZedT
namespace Go.Zed
open Go
inductive Tm where
  | mk (var : Bool) (name : ByteArray) (args : List Tm)
inductive Fm where
  | mk (op : Int) (name : ByteArray) (args : List Tm) (sub : List Fm)
inductive Pf where
  | mk (rule : ByteArray) (form : Fm) (label : Int) (sub : List Pf) (marks : List (List Int))
@[reducible] def slD (sz : Nat) (es : List (List DV)) : DV := .sl 0 sz none es.length 0 es
@[reducible] def encI (l : List Int) : List (List DV) := l.map fun i => [.at (.int .i64 i)]
@[reducible] def encM (l : List (List Int)) : List (List DV) := l.map fun m => [slD 1 (encI m)]
mutual
def encT : Tm → List DV
  | .mk v nm as => [.at (.bool v), .at (.string nm), slD 3 (encTs as)]
def encTs : List Tm → List (List DV)
  | [] => []
  | t :: l => encT t :: encTs l
end
mutual
def encF : Fm → List DV
  | .mk o nm as ss => [.at (.int .u8 o), .at (.string nm), slD 3 (encTs as), slD 4 (encFs ss)]
def encFs : List Fm → List (List DV)
  | [] => []
  | t :: l => encF t :: encFs l
end
mutual
def encP : Pf → List DV
  | .mk r f lab ss ms => .at (.string r) :: (encF f ++ [.at (.int .i64 lab), slD 8 (encPs ss), slD 1 (encM ms)])
def encPs : List Pf → List (List DV)
  | [] => []
  | t :: l => encP t :: encPs l
end
theorem encTs_map : ∀ l : List Tm, encTs l = l.map encT
  | [] => by rw [encTs]; rfl
  | t :: l => by rw [encTs, encTs_map l]; rfl
theorem encFs_map : ∀ l : List Fm, encFs l = l.map encF
  | [] => by rw [encFs]; rfl
  | t :: l => by rw [encFs, encFs_map l]; rfl
theorem encPs_map : ∀ l : List Pf, encPs l = l.map encP
  | [] => by rw [encPs]; rfl
  | t :: l => by rw [encPs, encPs_map l]; rfl
theorem invT {x : List DV} {v : Bool} {nm : ByteArray} {as : List Tm} (h : shL x = encT (.mk v nm as)) :
    ∃ T a n c es, x = [.at (.bool v), .at (.string nm), .sl T 3 a n c es] ∧ shLL es = as.map encT := by
  rw [encT] at h
  obtain ⟨d1, x1, rfl, e1, h⟩ := shL_cons h
  obtain ⟨d2, x2, rfl, e2, h⟩ := shL_cons h
  obtain ⟨d3, x3, rfl, e3, h⟩ := shL_cons h
  obtain rfl := shL_nil h
  obtain rfl := sh_at e1
  obtain rfl := sh_at e2
  obtain ⟨T, a, n, c, es, rfl, e3, _⟩ := sh_sl e3
  exact ⟨T, a, n, c, es, rfl, by rw [e3, encTs_map]⟩
theorem invF {x : List DV} {o : Int} {nm : ByteArray} {as : List Tm} {ss : List Fm} {y : List DV} (h : shL x = encF (.mk o nm as ss) ++ y) :
    ∃ T a n c es T' a' n' c' es' x', x = .at (.int .u8 o) :: .at (.string nm) :: .sl T 3 a n c es :: .sl T' 4 a' n' c' es' :: x' ∧ shLL es = as.map encT ∧ shLL es' = ss.map encF ∧ shL x' = y := by
  rw [encF] at h
  obtain ⟨d1, x1, rfl, e1, h1⟩ := shL_cons h
  obtain ⟨d2, x2, rfl, e2, h2⟩ := shL_cons h1
  obtain ⟨d3, x3, rfl, e3, h3⟩ := shL_cons h2
  obtain ⟨d4, x4, rfl, e4, h4⟩ := shL_cons h3
  obtain rfl := sh_at e1
  obtain rfl := sh_at e2
  obtain ⟨T, a, n, c, es, rfl, e3, _⟩ := sh_sl e3
  obtain ⟨T', a', n', c', es', rfl, e4, _⟩ := sh_sl e4
  exact ⟨T, a, n, c, es, T', a', n', c', es', x4, rfl, by rw [e3, encTs_map], by rw [e4, encFs_map], h4⟩
theorem invP {x : List DV} {r : ByteArray} {o : Int} {nm : ByteArray} {as : List Tm} {fs : List Fm} {lab : Int} {ss : List Pf} {ms : List (List Int)} (h : shL x = encP (.mk r (.mk o nm as fs) lab ss ms)) :
    ∃ T a n c es T' a' n' c' es' Ts sa sn sc su Tm ma mn mc mm, x = [.at (.string r), .at (.int .u8 o), .at (.string nm), .sl T 3 a n c es, .sl T' 4 a' n' c' es', .at (.int .i64 lab), .sl Ts 8 sa sn sc su, .sl Tm 1 ma mn mc mm] ∧
      shLL es = as.map encT ∧ shLL es' = fs.map encF ∧ shLL su = ss.map encP ∧ shLL mm = encM ms := by
  rw [encP] at h
  obtain ⟨d1, x1, rfl, e1, h⟩ := shL_cons h
  obtain ⟨T, a, n, c, es, T', a', n', c', es', x2, rfl, h1, h2, h⟩ := invF h
  obtain ⟨d3, x3, rfl, e3, h⟩ := shL_cons h
  obtain ⟨d4, x4, rfl, e4, h⟩ := shL_cons h
  obtain ⟨d5, x5, rfl, e5, h⟩ := shL_cons h
  obtain rfl := shL_nil h
  obtain rfl := sh_at e1
  obtain rfl := sh_at e3
  obtain ⟨Ts, sa, sn, sc, su, rfl, e4, _⟩ := sh_sl e4
  obtain ⟨Tm, ma, mn, mc, mm, rfl, e5, _⟩ := sh_sl e5
  exact ⟨T, a, n, c, es, T', a', n', c', es', Ts, sa, sn, sc, su, Tm, ma, mn, mc, mm, rfl, h1, h2, by rw [e4, encPs_map], e5⟩
theorem encI_inv : ∀ {l : List Int} {es : List (List DV)}, shLL es = encI l → es = encI l
  | [], es, h => by cases es with
    | nil => rfl
    | cons x es => rw [shLL] at h; cases h
  | i :: l, es, h => by cases es with
    | nil => rw [shLL] at h; cases h
    | cons x es =>
      rw [shLL] at h
      simp only [encI, List.map_cons, List.cons.injEq] at h
      obtain ⟨u, y, rfl, e1, h1⟩ := shL_cons h.1
      obtain rfl := shL_nil h1
      obtain rfl := sh_at e1
      rw [encI_inv (l := l) h.2]; rfl
theorem Ent.ownI {m : Option Img} : ∀ {l : List Int}, Ent [] [ownLL m (encI l)]
  | [] => .toOwnLLNil
  | i :: l => (Ent.append (A := []) (A' := []) (Ent.ownAtCons (v := .int .i64 i) rfl .toOwnNil) (Ent.ownI (l := l))).trans .toOwnLLCons
end Go.Zed
