/- Keys as bytes: a key is split, the document's way. -/
import Derived.Test.YtkmmaijkidkoiaaRfB
namespace Go.Proofs.Ytkmmaijkidkoiaa
open Go Go.RowKit

set_option maxRecDepth 100000 in
set_option maxHeartbeats 1000000 in
theorem rsplit_c (key : ByteArray) (w : World) (hk : key.size ≤ 1000000) :
   Calls Try.prog 56 #[.string key] w fun e w' => e = .returned (.tuple #[.int .i64 (splitK key.data.toList).1, .string ⟨(splitK key.data.toList).2.1.toArray⟩, .int .i64 (splitK key.data.toList).2.2]) ∧ Below w.heap.size w w' := by
  obtain ⟨c, W1, hrun, hc1, hR1, hB1⟩ := conv_bytes (P := Try.prog) w 9 29 5 key Try.underlying9 Try.underlying29 Try.underlying5
  have hsz : key.data.toList.length = key.size := by simp
  replace hsz := Lib.hid hsz
  go_enter Try.func56, Try.ntmps56
  go_wp2_with fail
  refine (rread_c _ _ _ _ W1 hR1 hsz.out hc1 (by omega)).mono ?_
  rintro e w2 ⟨hB2, hp⟩
  have hBB : Below w.heap.size w w2 := hB1.trans (hB2.mono hB1.size)
  cases hq : rdParts key.data.toList with
  | error x =>
    rw [hq] at hp
    simp only at hp
    subst hp
    have hx : (x != 0) = true := by simpa using rdParts_err _ x hq
    have e : splitK key.data.toList = (0, [], x) := by rw [splitK, hq]
    replace e := Lib.hid e
    go_wp2
    go_ret3
    rw [e.out]
    exact ⟨rfl, hBB⟩
  | ok l =>
    rw [hq] at hp
    simp only at hp
    obtain ⟨A2, c2, rfl, hown⟩ := hp
    have hR := Rd.of_own hown
    by_cases h2 : l.length = 2
    · obtain ⟨p, q, rfl⟩ : ∃ p q, l = [p, q] := by
        match l, h2 with
        | [p, q], _ => exact ⟨p, q, rfl⟩
      have hpp := rdParts_pure _ _ hq p (by simp)
      have hqp := rdParts_pure _ _ hq q (by simp)
      have hwr := rdParts_ok _ _ hq
      obtain ⟨b, o, rfl, c0, c1, c2'⟩ := hR.prt (k := 0) (by simp)
      obtain ⟨b', o', hbo, d0, d1, d2⟩ := hR.prt (k := 1) (by simp)
      injection hbo with hbo
      injection hbo with hb1 hb2
      subst hb1 hb2
      simp only [List.getD_cons_zero, List.getD_cons_succ, Nat.zero_mul, Nat.add_zero, Nat.one_mul] at c0 c1 c2' d0 d1 d2
      obtain ⟨pt, pn, px⟩ := p
      obtain ⟨qt, qn, qx⟩ := q
      simp only at c0 c1 c2' d0 d1 d2
      cases pt
      · cases qt
        · have e : splitK key.data.toList = (0, [], 2) := by rw [splitK, hq]; simp
          replace e := Lib.hid e
          replace hq := Lib.hid hq
          replace hwr := Lib.hid hwr
          clear h2 hpp hqp hown
          go_wp2
          go_ret3
          rw [e.out]
          exact ⟨rfl, hBB⟩
        · obtain ⟨T, hT⟩ : ∃ T : ByteArray, T = ⟨qx.toArray⟩ := ⟨_, rfl⟩
          rw [← hT] at d2
          have hTd : T.data.toList = qx := by rw [hT]
          have hTs : T.size = qx.length := by rw [hT]; simp [ByteArray.size]
          have hqx : qx.length ≤ 1000000 := by have := hqp.2.1; rw [hsz.out] at this; simp only at this; omega
          have hlen : (T.size : Int) = (qx.length : Int) := by rw [hTs]
          by_cases hbad : pn < 0 ∨ 4 ≤ pn ∨ 40 < qx.length
          · have e : splitK key.data.toList = (0, [], 2) := by
              rw [splitK, hq]
              simp only
              rw [if_pos (by simp; omega)]
            replace e := Lib.hid e
            replace hq := Lib.hid hq
            replace hwr := Lib.hid hwr
            replace hT := Lib.hid hT
            replace hTd := Lib.hid hTd
            rw [← hTs] at hbad hqx
            replace hTs := Lib.hid hTs
            clear h2 hpp hqp hown hlen
            by_cases h0 : pn < 0
            · go_wp2
              go_ret3
              rw [e.out]
              exact ⟨rfl, hBB⟩
            · by_cases h3 : pn > 3
              · go_wp2
                go_ret3
                rw [e.out]
                exact ⟨rfl, hBB⟩
              · have h40 : 40 < T.size := by omega
                go_wp2
                go_ret3
                rw [e.out]
                exact ⟨rfl, hBB⟩
          · have e : splitK key.data.toList = (pn, qx, 0) := by
              rw [splitK, hq]
              simp only
              rw [if_neg (by simp; omega)]
            replace e := Lib.hid e
            replace hq := Lib.hid hq
            replace hwr := Lib.hid hwr
            replace hT := Lib.hid hT
            replace hTd := Lib.hid hTd
            rw [← hTs] at hbad hqx
            replace hTs := Lib.hid hTs
            have h0 : ¬ pn < 0 := by omega
            have h3 : ¬ pn > 3 := by omega
            have h40 : ¬ 40 < T.size := by omega
            clear h2 hpp hqp hown hlen hbad
            go_wp2
            go_region
            all_goals go_wp2
            all_goals go_ret3
            all_goals rw [e.out]
            all_goals refine ⟨?_, hBB.drew⟩
            all_goals (have hT' := hT.out; show _ = Ending.returned (.tuple #[.int .i64 pn, .string ⟨qx.toArray⟩, .int .i64 0]); rw [← hT']; rfl)
      · have e : splitK key.data.toList = (0, [], 2) := by rw [splitK, hq]; simp
        replace e := Lib.hid e
        replace hq := Lib.hid hq
        replace hwr := Lib.hid hwr
        clear h2 hpp hqp hown
        go_wp2
        go_ret3
        rw [e.out]
        exact ⟨rfl, hBB⟩
    · have e : splitK key.data.toList = (0, [], 2) := by
        rw [splitK, hq]
        match l, h2 with
        | [], _ => rfl
        | [_], _ => rfl
        | _ :: _ :: _ :: _, _ => rfl
        | [_, _], h2 => simp at h2
      replace e := Lib.hid e
      have hl2 : ((l.length : Int) != 2) = true := by simp; omega
      replace hq := Lib.hid hq
      clear h2 hown hR
      go_wp2
      go_ret3
      rw [e.out]
      exact ⟨rfl, hBB⟩
end Go.Proofs.Ytkmmaijkidkoiaa
