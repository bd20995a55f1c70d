import Derived.Test.YtmeecdbnkbaklaaDoorZ6
namespace Go.Proofs.YtmeecdbnkbaklaaDoor
open Go Go.Zed
theorem mul_mono {x x' y y' : Int} (hx : 0 ≤ x) (hxx : x ≤ x') (hy : 0 ≤ y) (hyy : y ≤ y') : x * y ≤ x' * y' := Int.mul_le_mul hxx hyy hy (Int.le_trans hx hxx)
theorem shr_eq {n p : Int} (hn : 0 ≤ n) (hp : 0 ≤ p) : shr n p = n * p / 115292150460684697600 := by
  have hpe : p = 1073741824 * (p / 1073741824) + p % 1073741824 := (Int.mul_ediv_add_emod p 1073741824).symm
  generalize p / 1073741824 = a at hpe
  have hb : 0 ≤ p % 1073741824 ∧ p % 1073741824 < 1073741824 := by omega
  unfold shr
  have e1 : n * p = 1073741824 * (n * (p / 1073741824)) + n * (p % 1073741824) := by
    have := Int.mul_ediv_add_emod p 1073741824
    conv => lhs; rw [← this]
    rw [Int.mul_add, ← Int.mul_assoc, Int.mul_comm n 1073741824, Int.mul_assoc]
  rw [e1]
  generalize n * (p / 1073741824) = X
  generalize n * (p % 1073741824) = Y
  omega
theorem shr_mono {n p p' : Int} (hn : 0 ≤ n) (hp : 0 ≤ p) (h : p ≤ p') : shr n p ≤ shr n p' := by
  rw [shr_eq hn hp, shr_eq hn (Int.le_trans hp h)]
  have := Int.mul_le_mul_of_nonneg_left h hn
  omega
theorem base_mono {s : Sch} {w w' : Wrk} (hV : Vld s) (hR : Rgt w) (hR' : Rgt w') (h : w.p ≤ w'.p) : baseOf s w ≤ baseOf s w' := by
  have hpq := mulb hV.1.p hV.1.q
  have hp := hV.1.p
  have hq := hV.1.q
  have h1 := hR.p
  unfold baseOf
  split
  · split
    · exact shr_mono hpq.1 h1.1 h
    · rw [shr_eq hpq.1 h1.1]
      have h2 : s.p * s.q * w.p ≤ s.p * 100 * 1152921504606846976 := mul_mono hpq.1 (Int.mul_le_mul_of_nonneg_left hq.2 hp.1) h1.1 h1.2
      omega
  · rw [if_neg (by omega)]; exact Int.le_refl _
theorem late_mono {d d' : Int} (h : d' ≤ d) : ∀ {lt : List (Int × Int)} {z z' a q : Int}, Chain a q lt → z' ≤ z → z' ≤ q → lateOf d' z' lt ≤ lateOf d z lt
  | [], z, z', a, q, _, hz, _ => hz
  | x :: t, z, z', a, q, hc, hz, hq => by
    rw [lateOf, lateOf]
    have := hc.1
    refine late_mono h hc.2 ?_ ?_
    · split <;> split <;> omega
    · split <;> omega
theorem ret_mono {s : Sch} {w w' : Wrk} (hV : Vld s) (hR' : Rgt w') (h : w'.a ≤ w.a) : retOf s w' ≤ retOf s w := by
  have := Int.mul_le_mul_of_nonneg_left (c := s.ret) (show w'.a - 1 ≤ w.a - 1 by omega) hV.1.ret.1
  unfold retOf
  split <;> split <;> omega
theorem hin_mono {s : Sch} {w w' : Wrk} (hV : Vld s) (h : w'.h ≤ w.h) : hinOf s w' ≤ hinOf s w := by
  have := Int.mul_le_mul_of_nonneg_left (c := s.hin) h hV.1.hin.1
  unfold hinOf
  omega
theorem base_b {s : Sch} {w : Wrk} (hV : Vld s) (hR : Rgt w) : 0 ≤ baseOf s w ∧ baseOf s w ≤ s.p := by
  have hpq := mulb hV.1.p hV.1.q
  have hp := hV.1.p
  have hq := hV.1.q
  have h1 := hR.p
  unfold baseOf
  split
  · rw [shr_eq hpq.1 h1.1]
    have h2 : s.p * s.q * w.p ≤ s.p * 100 * 1152921504606846976 := mul_mono hpq.1 (Int.mul_le_mul_of_nonneg_left hq.2 hp.1) h1.1 h1.2
    have h3 := Int.mul_nonneg hpq.1 h1.1
    omega
  · exact ⟨hp.1, Int.le_refl _⟩
theorem grd_mono {s : Sch} {w w' : Wrk} (hV : Vld s) (hR : Rgt w) (hR' : Rgt w') (hp : w.p ≤ w'.p) (hd : w'.d ≤ w.d) (ha : w'.a ≤ w.a) (hh : w'.h ≤ w.h) : (grd s w).pt ≤ (grd s w').pt := by
  have hL := late_b (d := w.d) (lt := s.lt) (z := 0) (by omega) (Int.le_refl 0) hV.2
  have hL' := late_b (d := w'.d) (lt := s.lt) (z := 0) (by omega) (Int.le_refl 0) hV.2
  have h1 := base_mono hV hR hR' hp
  have h2 := late_mono hd hV.2 (Int.le_refl 0) (Int.le_refl 0)
  have h3 := ret_mono hV hR' ha
  have h4 := hin_mono hV hh
  have b := base_b hV hR
  have b' : 0 ≤ baseOf s w ∧ baseOf s w ≤ 10000 := ⟨b.1, Int.le_trans b.2 hV.1.p.2⟩
  have r := ret_b hV hR
  have r' := ret_b hV hR'
  have i := hin_b hV hR
  have i' := hin_b hV hR'
  have P := pts_b b' hL r i
  have m1 := mul_mono b.1 h1 (show 0 ≤ 100 - lateOf w.d 0 s.lt by omega) (show 100 - lateOf w.d 0 s.lt ≤ 100 - lateOf w'.d 0 s.lt by omega)
  have m2 := mul_mono P.1.1 m1 (show 0 ≤ 100 - retOf s w by omega) (show 100 - retOf s w ≤ 100 - retOf s w' by omega)
  have m3 := mul_mono P.2.1.1 m2 (show 0 ≤ 100 - hinOf s w by omega) (show 100 - hinOf s w ≤ 100 - hinOf s w' by omega)
  show _ / 1000000 ≤ _ / 1000000
  omega
theorem grd_top {s : Sch} {w : Wrk} (hV : Vld s) (hR : Rgt w) : (grd s w).pt ≤ s.p := by
  have hL := late_b (d := w.d) (lt := s.lt) (z := 0) (by omega) (Int.le_refl 0) hV.2
  have b := base_b hV hR
  have r := ret_b hV hR
  have i := hin_b hV hR
  have m1 := mul_mono b.1 b.2 (show 0 ≤ 100 - lateOf w.d 0 s.lt by omega) (show 100 - lateOf w.d 0 s.lt ≤ 100 by omega)
  have P := pts_b ⟨b.1, Int.le_trans b.2 hV.1.p.2⟩ hL r i
  have m2 := mul_mono P.1.1 m1 (show 0 ≤ 100 - retOf s w by omega) (show 100 - retOf s w ≤ 100 by omega)
  have m3 := mul_mono P.2.1.1 m2 (show 0 ≤ 100 - hinOf s w by omega) (show 100 - hinOf s w ≤ 100 by omega)
  show _ / 1000000 ≤ _
  omega
theorem late_0 : ∀ {lt : List (Int × Int)} {z : Int}, lateOf 0 z lt = z
  | [], _ => rfl
  | x :: t, z => by rw [lateOf, if_neg (by omega)]; exact late_0
theorem grd_full {s : Sch} (hV : Vld s) : (grd s ⟨1152921504606846976, 0, 1, 0⟩).pt = s.p := by
  have hr : retOf s ⟨1152921504606846976, 0, 1, 0⟩ = 0 := by
    unfold retOf
    rw [if_neg (by simp only; omega)]
    simp only [Int.sub_self, Int.mul_zero]; decide
  have hb : baseOf s ⟨1152921504606846976, 0, 1, 0⟩ = s.p := by unfold baseOf; rw [if_neg (by simp only; omega)]
  have hh : hinOf s ⟨1152921504606846976, 0, 1, 0⟩ = 0 := by unfold hinOf; simp only [Int.mul_zero]; decide
  show baseOf s _ * (100 - lateOf 0 0 s.lt) * (100 - retOf s _) * (100 - hinOf s _) / 1000000 = s.p
  rw [hr, hb, hh, late_0]
  omega
end Go.Proofs.YtmeecdbnkbaklaaDoor
