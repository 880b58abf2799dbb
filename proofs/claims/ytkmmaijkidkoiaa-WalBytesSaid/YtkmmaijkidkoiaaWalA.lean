/- A log: calls one after the other. -/
import Derived.Test.YtkmmaijkidkoiaaGrpB
namespace Go.Proofs.Ytkmmaijkidkoiaa
open Go Go.RowKit
variable {fp : Nat → Prop}

/-- A function value with what it captured. -/
def fv (f : FuncId × Array Value) : Value := .func (.func f.1) #[] f.2

set_option maxRecDepth 100000 in
set_option maxHeartbeats 1000000 in
theorem all_c (L : Option Addr) (n c : Nat) (fs : List (FuncId × Array Value)) (w : World) (hn : fs.length = n) (hnb : n ≤ 1000000)
   (hen : ∀ f ∈ fs, ∀ args w, (callFunc f.1 args).run Try.prog w = .ok (.enter f.1 args) w) (I : Nat → World → Prop) (J : Int → World → Prop) (h0 : I 0 w) (hrd : ∀ k w', I k w' → Rd w' L (fs.map fv))
   (hstep : ∀ k f w', fs[k]? = some f → I k w' → Calls Try.prog f.1 f.2 w' fun e w2 => ∃ r : Int, e = .returned (.int .i64 r) ∧ (r = 0 → I (k + 1) w2) ∧ (r ≠ 0 → J r w2)) :
   Calls Try.prog 19 #[.slice L n c] w fun e w' => ∃ r : Int, e = .returned (.int .i64 r) ∧ (r = 0 → I n w') ∧ (r ≠ 0 → J r w') := by
  replace hn := Lib.hid hn
  replace hen := Lib.hid hen
  replace hrd := Lib.hid hrd
  replace hstep := Lib.hid hstep
  replace h0 := Lib.hid h0
  go_enter Try.func19, Try.ntmps19
  go_wp2_with fail
  go_loopw [8] (fun i wr => ∃ k : Nat, k ≤ n ∧ i = .int .i64 (k : Int) ∧ I k wr) (fun i _ => n - (intOf i).toNat)
  case atStart => exact ⟨0, by omega, rfl, h0.out⟩
  case round =>
    obtain ⟨k, hk, rfl, hI⟩ := hrel
    by_cases hlt : k < n
    · have hlt' : k < fs.length := by rw [hn.out]; exact hlt
      obtain ⟨b, o, rfl, _, hc⟩ := (hrd.out k wr hI).at_ (by intro e; have := congrArg List.length e; simp at this; subst this; simp at hlt')
      have hgk : fs[k]? = some fs[k] := List.getElem?_eq_getElem hlt'
      have hmem : fs[k] ∈ fs := List.getElem_mem hlt'
      have c0 : wr.cell? ⟨b, o + k, none⟩ = some (fv fs[k]) := hc k _ (by rw [List.getElem?_map, hgk]; rfl)
      have hcall := hstep.out k _ wr hgk hI
      have hent := hen.out _ hmem
      clear hc hgk hmem
      replace hI := Lib.hid hI
      generalize fs[k] = f at *
      obtain ⟨K, caps⟩ := f
      simp only [fv] at c0
      simp only at hcall hent
      replace hcall := Lib.hid hcall
      clear hlt'
      go_wp2_with fail
      refine hcall.out.mono ?_
      rintro e w2 ⟨r, rfl, hr0, hr1⟩
      replace hr0 := Lib.hid hr0
      replace hr1 := Lib.hid hr1
      by_cases hr : r = 0
      · subst hr
        go_wp2
        go_roundw
        case rel => exact ⟨k + 1, by omega, by go_num, hr0.out (by trivial)⟩
        case measure => simp [intOf]; omega
      · go_wp2
        go_ret
        exact ⟨r, rfl, fun e => absurd e hr, hr1.out⟩
    · have e : k = n := by omega
      subst e
      replace hI := Lib.hid hI
      go_wp2
      go_ret
      exact ⟨0, rfl, fun _ => hI.out, fun e => absurd rfl e⟩

def tempB : ByteArray := ⟨#[116, 101, 109, 112, 46, 108, 111, 103]⟩
def temp : List UInt8 := [116, 101, 109, 112, 46, 108, 111, 103]
set_option maxRecDepth 100000 in
set_option maxHeartbeats 1000000 in
theorem fresh1_c (d m bd : Nat) (D : Dk) (w : World) (h : DiskAt fp w d m D) (gd : w.cell? ⟨bd, 0, none⟩ = some (.pointer (some ⟨d, 0, none⟩))) :
   Calls Try.prog 37 #[.pointer (some ⟨bd, 0, none⟩)] w fun e w' => e = .returned (.int .i64 (D.create temp).1) ∧ DiskAt fp w' d m (D.create temp).2 ∧ Turn [d, m] w w' := by
  have hc := create_c d m D tempB w h (by decide)
  have ht : tempB.data.toList = temp := rfl
  rw [ht] at hc
  unfold tempB at hc
  replace hc := Lib.hid hc
  clear ht
  generalize D.create temp = R at *
  go_enter Try.func37, Try.ntmps37
  go_wp2_with fail
  refine hc.out.mono ?_
  rintro e w2 ⟨rfl, h2, ht2⟩
  replace h2 := Lib.hid h2
  replace ht2 := Lib.hid ht2
  go_wp2
  go_ret
  exact ⟨rfl, h2.out, ht2.out⟩
set_option maxRecDepth 100000 in
set_option maxHeartbeats 1000000 in
theorem fresh2_c (d m bd bb : Nat) (D : Dk) (B : Option Addr) (nb cb : Nat) (bs : List UInt8) (w : World) (h : DiskAt fp w d m D) (hb : Rd w B (bs.map bv)) (hn : bs.length = nb) (hnb : nb ≤ 1000000000) (hoff : ∀ g o, B = some ⟨g, o, none⟩ → g ∉ [d, m]) (gb : w.cell? ⟨bb, 0, none⟩ = some (.slice B nb cb)) (gd : w.cell? ⟨bd, 0, none⟩ = some (.pointer (some ⟨d, 0, none⟩))) :
   Calls Try.prog 39 #[.pointer (some ⟨bd, 0, none⟩), .pointer (some ⟨bb, 0, none⟩)] w fun e w' => e = .returned (.int .i64 (D.append temp bs).1) ∧ DiskAt fp w' d m (D.append temp bs).2 ∧ Turn [d, m] w w' := by
  have hc := append_c d m D tempB B nb cb bs w h (by decide) hb hn hnb hoff
  have ht : tempB.data.toList = temp := rfl
  rw [ht] at hc
  unfold tempB at hc
  replace hc := Lib.hid hc
  clear ht
  generalize D.append temp bs = R at *
  go_enter Try.func39, Try.ntmps39
  go_wp2_with fail
  refine hc.out.mono ?_
  rintro e w2 ⟨rfl, h2, ht2⟩
  replace h2 := Lib.hid h2
  replace ht2 := Lib.hid ht2
  go_wp2
  go_ret
  exact ⟨rfl, h2.out, ht2.out⟩
set_option maxRecDepth 100000 in
set_option maxHeartbeats 1000000 in
theorem fresh3_c (d m bd : Nat) (D : Dk) (w : World) (h : DiskAt fp w d m D) (gd : w.cell? ⟨bd, 0, none⟩ = some (.pointer (some ⟨d, 0, none⟩))) :
   Calls Try.prog 40 #[.pointer (some ⟨bd, 0, none⟩)] w fun e w' => e = .returned (.int .i64 (D.sync temp).1) ∧ DiskAt fp w' d m (D.sync temp).2 ∧ Turn [d, m] w w' := by
  have hc := sync_c d m D tempB w h (by decide)
  have ht : tempB.data.toList = temp := rfl
  rw [ht] at hc
  unfold tempB at hc
  replace hc := Lib.hid hc
  clear ht
  generalize D.sync temp = R at *
  go_enter Try.func40, Try.ntmps40
  go_wp2_with fail
  refine hc.out.mono ?_
  rintro e w2 ⟨rfl, h2, ht2⟩
  replace h2 := Lib.hid h2
  replace ht2 := Lib.hid ht2
  go_wp2
  go_ret
  exact ⟨rfl, h2.out, ht2.out⟩
set_option maxRecDepth 100000 in
set_option maxHeartbeats 1000000 in
theorem fresh4_c (d m bd bn : Nat) (D : Dk) (nm : ByteArray) (w : World) (h : DiskAt fp w d m D) (gd : w.cell? ⟨bd, 0, none⟩ = some (.pointer (some ⟨d, 0, none⟩))) (gn : w.cell? ⟨bn, 0, none⟩ = some (.string nm)) (hnm : nm.size ≤ 1099511627776) :
   Calls Try.prog 41 #[.pointer (some ⟨bd, 0, none⟩), .pointer (some ⟨bn, 0, none⟩)] w fun e w' => e = .returned (.int .i64 (D.rename temp nm.data.toList).1) ∧ DiskAt fp w' d m (D.rename temp nm.data.toList).2 ∧ Turn [d, m] w w' := by
  have hc := rename_c d m D tempB nm w h (by decide) hnm
  have ht : tempB.data.toList = temp := rfl
  rw [ht] at hc
  unfold tempB at hc
  replace hc := Lib.hid hc
  clear ht
  generalize D.rename temp nm.data.toList = R at *
  go_enter Try.func41, Try.ntmps41
  go_wp2_with fail
  refine hc.out.mono ?_
  rintro e w2 ⟨rfl, h2, ht2⟩
  replace h2 := Lib.hid h2
  replace ht2 := Lib.hid ht2
  go_wp2
  go_ret
  exact ⟨rfl, h2.out, ht2.out⟩
end Go.Proofs.Ytkmmaijkidkoiaa
