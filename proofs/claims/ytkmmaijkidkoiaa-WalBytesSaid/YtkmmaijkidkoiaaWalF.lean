/- A log on a disk of its own; the document's example. -/
import Derived.Test.YtkmmaijkidkoiaaWalE
namespace Go.Proofs.Ytkmmaijkidkoiaa
open Go Go.RowKit

def logB : ByteArray := ⟨#[108, 111, 103]⟩
def logN : List UInt8 := [108, 111, 103]
/-- A disk that holds a log's file alone, all of it safe. -/
def dkl (q : Int) (bs : List UInt8) : Dk := ⟨[⟨logN, bs, bs.length⟩], q, -1, false⟩

theorem okLog : okName logN = true := by decide +kernel
theorem okTemp : okName temp = true := by decide +kernel
theorem deed_ok (D : Dk) (A B : Files) (hd : D.down = false) (hl : D.left = -1) : D.deed 0 A B = (0, ⟨A, D.q, -1, false⟩) := by
  simp [Dk.deed, hd, hl, dec]
theorem deed_bad (D : Dk) (e : Int) (A B : Files) (hd : D.down = false) (he : e ≠ 0) : D.deed e A B = (e, D) := by
  simp [Dk.deed, hd, he]
theorem hasT (q l : Int) (b : Bool) : (Dk.mk [⟨temp, [], 0⟩] q l b).F.has temp = true := rfl
theorem fresh_dk0 (q : Int) (h : 0 ≤ q) : (dk0 q).fresh logN [] = (0, dkl q []) := by
  have h1 : (dk0 q).remove temp = (8, dk0 q) := deed_bad _ 8 _ _ rfl (by omega)
  have h2 : (dk0 q).create temp = (0, ⟨[⟨temp, [], 0⟩], q, -1, false⟩) := by
    unfold Dk.create
    rw [if_pos okTemp]
    exact deed_ok _ _ _ rfl rfl
  have h3 : Dk.append ⟨[⟨temp, [], 0⟩], q, -1, false⟩ temp [] = (0, ⟨[⟨temp, [], 0⟩], q, -1, false⟩) := by
    unfold Dk.append
    rw [if_pos (hasT _ _ _), if_neg (by simp [Files.used]; omega)]
    exact deed_ok _ _ _ rfl rfl
  have h4 : Dk.sync ⟨[⟨temp, [], 0⟩], q, -1, false⟩ temp = (0, ⟨[⟨temp, [], 0⟩], q, -1, false⟩) := by
    unfold Dk.sync
    rw [if_pos (hasT _ _ _)]
    exact deed_ok _ _ _ rfl rfl
  have h5 : Dk.rename ⟨[⟨temp, [], 0⟩], q, -1, false⟩ temp logN = (0, dkl q []) := by
    unfold Dk.rename
    rw [if_pos (hasT _ _ _), if_pos okLog]
    exact deed_ok _ _ _ rfl rfl
  have h6 : (dk0 q).fresh4 logN [] = (0, dkl q []) := by
    have e1 : andDo ((dk0 q).create temp) (·.append temp []) = (0, ⟨[⟨temp, [], 0⟩], q, -1, false⟩) := by rw [h2]; exact h3
    have e2 : andDo (andDo ((dk0 q).create temp) (·.append temp [])) (·.sync temp) = (0, ⟨[⟨temp, [], 0⟩], q, -1, false⟩) := by rw [e1]; exact h4
    unfold Dk.fresh4
    rw [e2]
    exact h5
  unfold Dk.fresh
  rw [h1]
  simp only
  rw [if_neg (by omega), h6, if_neg (by simp)]
theorem log_dkl (q : Int) (bs FB : List UInt8) (h : (bs.length + FB.length : Nat) ≤ q) : (dkl q bs).log logN FB = (0, dkl q (bs ++ FB)) := by
  have h1 : (dkl q bs).append logN FB = (0, ⟨[⟨logN, bs ++ FB, bs.length⟩], q, -1, false⟩) := by
    unfold Dk.append
    rw [if_pos (by simp [dkl, Files.has]), if_neg (by simp [Files.used, dkl]; omega), deed_ok _ _ _ rfl rfl]
    simp [dkl, Files.put, Files.del, insF, Files.get]
  unfold Dk.log
  rw [h1, andDo_ok rfl]
  unfold Dk.sync
  rw [if_pos (by simp [Files.has]), deed_ok _ _ _ rfl rfl]
  simp [dkl, Files.put, Files.del, insF, Files.get]
theorem logApp_dkl (q : Int) (bs : List UInt8) (last ep : Int) (l : List Ver) (h : okG ep l = true → (bs.length + (frame (gbytes ep l)).length : Nat) ≤ q) :
   logApp (dkl q bs) logN last false ep l = if okG ep l && decide (last < ep) then ⟨0, dkl q (bs ++ frame (gbytes ep l)), ep, false⟩ else ⟨1, dkl q bs, last, false⟩ := by
  unfold logApp
  by_cases hc : (okG ep l && decide (last < ep)) = true
  · rw [if_pos hc, if_pos hc, if_neg (by simp [dkl])]
    simp only [Bool.and_eq_true] at hc
    rw [log_dkl q bs _ (h hc.1)]
    rfl
  · rw [if_neg hc, if_neg hc]
theorem gbytes1 : gbytes 1 [] = [1, 0] := by
  unfold gbytes vlist putI
  rw [show (1 : Int).toNat = 1 from rfl, putN_lt (by omega)]
  simp [putN_lt]

set_option maxRecDepth 100000 in
set_option maxHeartbeats 1000000 in
theorem lives_c (w : World) : Calls Try.prog 12 #[] w fun e w' => e = .returned (.bool true) ∧ Below w.heap.size w w' := by
  have hb : (frame (gbytes 1 [])).length = 10 := by rw [frame_len, gbytes1]; rfl
  have ha1 : ∀ (w' : World) (g : Nat), DiskAt (fun _ => True) w' (w.heap.size + 1) w.heap.size (dkl 1000 []) → LogAt w' g (w.heap.size + 1) logB 0 false → g ∉ [w.heap.size + 1, w.heap.size] →
     Calls Try.prog 8 #[.pointer (some ⟨g, 0, none⟩), .agg #[.int .i64 1, .slice none 0 0]] w' fun e w2 => e = .returned (.int .i64 0) ∧ DiskAt (fun _ => True) w2 (w.heap.size + 1) w.heap.size (dkl 1000 (frame (gbytes 1 []))) ∧ LogAt w2 g (w.heap.size + 1) logB 1 false ∧ Turn [w.heap.size + 1, w.heap.size, g] w' w2 := by
    intro w' g hD hL hg
    have := lappend_c (w.heap.size + 1) w.heap.size g (dkl 1000 []) logB 0 false 1 none 0 0 [] w' hD hL (by decide) (Rd.nil _ _) (by intro g' o e; simp at e) rfl (by omega) (by simp) hg
    rw [show logB.data.toList = logN from rfl, logApp_dkl 1000 [] 0 1 [] (fun _ => by simp only [List.length_nil, hb]; omega), if_pos (by decide)] at this
    exact this
  have ha2 : ∀ (w' : World) (g : Nat), DiskAt (fun _ => True) w' (w.heap.size + 1) w.heap.size (dkl 1000 (frame (gbytes 1 []))) → LogAt w' g (w.heap.size + 1) logB 1 false → g ∉ [w.heap.size + 1, w.heap.size] →
     Calls Try.prog 8 #[.pointer (some ⟨g, 0, none⟩), .agg #[.int .i64 1, .slice none 0 0]] w' fun e w2 => e = .returned (.int .i64 1) ∧ LogAt w2 g (w.heap.size + 1) logB 1 false ∧ Turn [w.heap.size + 1, w.heap.size, g] w' w2 := by
    intro w' g hD hL hg
    have := lappend_c (w.heap.size + 1) w.heap.size g (dkl 1000 (frame (gbytes 1 []))) logB 1 false 1 none 0 0 [] w' hD hL (by decide) (Rd.nil _ _) (by intro g' o e; simp at e) rfl (by omega) (by simp) hg
    rw [show logB.data.toList = logN from rfl, logApp_dkl 1000 _ 1 1 [] (fun _ => by rw [hb]; omega), if_neg (by decide)] at this
    exact this.mono fun e w2 h => ⟨h.1, h.2.2.1, h.2.2.2⟩
  have hcr : ∀ w', DiskAt (fun _ => True) w' (w.heap.size + 1) w.heap.size (dk0 1000) → Calls Try.prog 6 #[.pointer (some ⟨w.heap.size + 1, 0, none⟩), .string ⟨#[108, 111, 103]⟩] w' fun e w2 => ∃ g, e = .returned (.tuple #[.pointer (some ⟨g, 0, none⟩), .int .i64 0]) ∧ w'.heap.size ≤ g ∧ LogAt w2 g (w.heap.size + 1) logB 0 false ∧ DiskAt (fun _ => True) w2 (w.heap.size + 1) w.heap.size (dkl 1000 []) ∧ Turn [w.heap.size + 1, w.heap.size] w' w2 := by
    intro w' h'
    have hf : (dk0 1000).fresh logB.data.toList [] = (0, dkl 1000 []) := fresh_dk0 1000 (by omega)
    have := lcreate_c _ _ _ logB w' h' (by decide) (by rw [hf])
    rw [hf] at this
    exact this
  have hlog : logB = ⟨#[108, 111, 103]⟩ := rfl
  replace ha1 := Lib.hid ha1
  replace ha2 := Lib.hid ha2
  replace hcr := Lib.hid hcr
  replace hlog := Lib.hid hlog
  clear hb
  go_enter Try.func12, Try.ntmps12
  go_wp2_with fail
  refine (dnew_c (fp := fun _ => True) 1000 w (by omega) (by omega) (fun _ _ => trivial)).mono ?_
  rintro e w1 ⟨rfl, hD1, hB1⟩
  have hsz := hD1.ltd
  go_wp2_with fail
  refine (hcr.out w1 hD1).mono ?_
  rintro e w2 ⟨g, rfl, hg, hL2, hD2, ht2⟩
  have hgn : g ∉ [w.heap.size + 1, w.heap.size] := by simp; omega
  have hB2 := hB1.trans (ht2.below hB1.size (by simp))
  replace hL2 := Lib.hid hL2
  replace hD2 := Lib.hid hD2
  replace ht2 := Lib.hid ht2
  replace hB2 := Lib.hid hB2
  go_wp2_with fail
  refine (ha1.out w2 g hD2.out hL2.out hgn).mono ?_
  rintro e w3 ⟨rfl, hD3, hL3, ht3⟩
  have hB3 := hB2.out.trans (ht3.below hB2.out.size (by simp; omega))
  replace hL3 := Lib.hid hL3
  replace hD3 := Lib.hid hD3
  replace ht3 := Lib.hid ht3
  replace hB3 := Lib.hid hB3
  go_wp2_with fail
  refine (ha2.out w3 g hD3.out hL3.out hgn).mono ?_
  rintro e w4 ⟨rfl, hL4, ht4⟩
  have hB4 := hB3.out.trans (ht4.below hB3.out.size (by simp; omega))
  have hnm := lname_c g _ logB 1 false w4 hL4
  rw [hlog.out] at hnm
  replace hL4 := Lib.hid hL4
  replace ht4 := Lib.hid ht4
  replace hB4 := Lib.hid hB4
  replace hnm := Lib.hid hnm
  go_wp2_with fail
  refine hnm.out.mono ?_
  rintro e w5 ⟨rfl, rfl⟩
  go_wp2
  go_ret
  exact ⟨rfl, hB4.out⟩
end Go.Proofs.Ytkmmaijkidkoiaa
