/- May a version be written: the document's May. -/
import Derived.Test.YtkmmaijkidkoiaaMayB
namespace Go.Proofs.Ytkmmaijkidkoiaa
open Go Go.RowKit

set_option maxRecDepth 100000 in
set_option maxHeartbeats 2000000 in
theorem refmay_c (v : Ver) (w : World) (hk : v.key.size ≤ 1000000) : Calls Try.prog 26 #[v.agg] w fun e w' => e = .returned (.bool v.okv) ∧ Below w.heap.size w w' := by
  rcases v with ⟨key, br, ep, sq, fr, too, val, gone⟩
  simp only at hk
  have hres : (Ver.okv ⟨key, br, ep, sq, fr, too, val, gone⟩) = ((splitK key.data.toList).2.2 == 0 && (decide (0 ≤ br ∧ br ≤ 15) && decide (1 ≤ ep ∧ ep ≤ 10000) && decide (1 ≤ sq ∧ sq ≤ 100000)) && spanOk fr too && decide (val.size ≤ 200) && (!gone || val.toList.isEmpty)) := rfl
  replace hres := Lib.hid hres
  go_enter Try.func26, Try.ntmps26
  go_wp2_with fail
  refine (rsplit_c key _ hk).mono ?_
  rintro e w1 ⟨rfl, hB1⟩
  generalize splitK key.data.toList = s at *
  obtain ⟨tb, tx, er⟩ := s
  simp only
  have hW : Below w.heap.size w w1 := ((Below.refl _ _).alloc (Nat.le_refl _) _).trans (hB1.mono (by simp))
  obtain ⟨q1, q2, q3, q4, q5, q6, q7⟩ := ver_box hB1
  go_wp2_with fail
  refine (rsmay_c _ _ _).mono ?_
  rintro e w2 ⟨rfl, hB2⟩
  have HB2 := hB1.trans (hB2.mono hB1.size)
  clear q1 q2 q3 q4 q5 q6 q7
  obtain ⟨q1, q2, q3, q4, q5, q6, q7⟩ := ver_box HB2
  replace hW := hW.trans (hB2.mono hW.size)
  clear hB1 hB2 HB2
  generalize spanOk fr too = p4 at *
  by_cases her : er = 0
  · subst her
    cases p4
    · go_wp2
      go_ret
      exact ⟨by rw [hres.out]; simp_all, hW⟩
    · by_cases h200 : val.size ≤ 200
      · have hd : decide (val.size ≤ 200) = true := by simp; omega
        rw [hd] at hres
        clear hd
        cases gone
        · by_cases c0 : 0 ≤ br
          rotate_left
          · have hd : decide (0 ≤ br ∧ br ≤ 15) = false := by simp; omega
            rw [hd] at hres
            go_wp2
            go_ret
            exact ⟨by rw [hres.out]; simp_all, hW⟩
          by_cases c1 : br ≤ 15
          rotate_left
          · have hd : decide (0 ≤ br ∧ br ≤ 15) = false := by simp; omega
            rw [hd] at hres
            go_wp2
            go_ret
            exact ⟨by rw [hres.out]; simp_all, hW⟩
          by_cases c2 : 1 ≤ ep
          rotate_left
          · have hd : decide (1 ≤ ep ∧ ep ≤ 10000) = false := by simp; omega
            rw [hd] at hres
            go_wp2
            go_ret
            exact ⟨by rw [hres.out]; simp_all, hW⟩
          by_cases c3 : ep ≤ 10000
          rotate_left
          · have hd : decide (1 ≤ ep ∧ ep ≤ 10000) = false := by simp; omega
            rw [hd] at hres
            go_wp2
            go_ret
            exact ⟨by rw [hres.out]; simp_all, hW⟩
          by_cases c4 : 1 ≤ sq
          rotate_left
          · have hd : decide (1 ≤ sq ∧ sq ≤ 100000) = false := by simp; omega
            rw [hd] at hres
            go_wp2
            go_ret
            exact ⟨by rw [hres.out]; simp_all, hW⟩
          by_cases c5 : sq ≤ 100000
          rotate_left
          · have hd : decide (1 ≤ sq ∧ sq ≤ 100000) = false := by simp; omega
            rw [hd] at hres
            go_wp2
            go_ret
            exact ⟨by rw [hres.out]; simp_all, hW⟩
          have hd1 : decide (0 ≤ br ∧ br ≤ 15) = true := by simp; omega
          have hd2 : decide (1 ≤ ep ∧ ep ≤ 10000) = true := by simp; omega
          have hd3 : decide (1 ≤ sq ∧ sq ≤ 100000) = true := by simp; omega
          rw [hd1, hd2, hd3] at hres
          go_wp2
          go_ret
          exact ⟨by rw [hres.out]; simp_all, hW⟩
        · cases hv : val.toList.isEmpty
          · rw [hv] at hres
            go_wp2
            go_ret
            exact ⟨by rw [hres.out]; simp_all, hW⟩
          · rw [hv] at hres
            by_cases c0 : 0 ≤ br
            rotate_left
            · have hd : decide (0 ≤ br ∧ br ≤ 15) = false := by simp; omega
              rw [hd] at hres
              go_wp2
              go_ret
              exact ⟨by rw [hres.out]; simp_all, hW⟩
            by_cases c1 : br ≤ 15
            rotate_left
            · have hd : decide (0 ≤ br ∧ br ≤ 15) = false := by simp; omega
              rw [hd] at hres
              go_wp2
              go_ret
              exact ⟨by rw [hres.out]; simp_all, hW⟩
            by_cases c2 : 1 ≤ ep
            rotate_left
            · have hd : decide (1 ≤ ep ∧ ep ≤ 10000) = false := by simp; omega
              rw [hd] at hres
              go_wp2
              go_ret
              exact ⟨by rw [hres.out]; simp_all, hW⟩
            by_cases c3 : ep ≤ 10000
            rotate_left
            · have hd : decide (1 ≤ ep ∧ ep ≤ 10000) = false := by simp; omega
              rw [hd] at hres
              go_wp2
              go_ret
              exact ⟨by rw [hres.out]; simp_all, hW⟩
            by_cases c4 : 1 ≤ sq
            rotate_left
            · have hd : decide (1 ≤ sq ∧ sq ≤ 100000) = false := by simp; omega
              rw [hd] at hres
              go_wp2
              go_ret
              exact ⟨by rw [hres.out]; simp_all, hW⟩
            by_cases c5 : sq ≤ 100000
            rotate_left
            · have hd : decide (1 ≤ sq ∧ sq ≤ 100000) = false := by simp; omega
              rw [hd] at hres
              go_wp2
              go_ret
              exact ⟨by rw [hres.out]; simp_all, hW⟩
            have hd1 : decide (0 ≤ br ∧ br ≤ 15) = true := by simp; omega
            have hd2 : decide (1 ≤ ep ∧ ep ≤ 10000) = true := by simp; omega
            have hd3 : decide (1 ≤ sq ∧ sq ≤ 100000) = true := by simp; omega
            rw [hd1, hd2, hd3] at hres
            go_wp2
            go_ret
            exact ⟨by rw [hres.out]; simp_all, hW⟩
      · have hd : decide (val.size ≤ 200) = false := by simp; omega
        rw [hd] at hres
        clear hd
        go_wp2
        go_ret
        exact ⟨by rw [hres.out]; simp_all, hW⟩
  · have he : (er == 0) = false := by simpa using her
    rw [he] at hres
    go_wp2
    go_ret
    exact ⟨by rw [hres.out]; simp_all, hW⟩
end Go.Proofs.Ytkmmaijkidkoiaa
