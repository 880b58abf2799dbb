/- The disk: a deed. -/
import Derived.Test.YtkmmaijkidkoiaaDskE
namespace Go.Proofs.Ytkmmaijkidkoiaa
open Go Go.RowKit
variable {fp : Nat → Prop}

theorem nothing_c (w : World) : Calls Try.prog 55 #[] w fun e w' => e = .returned (.tuple #[]) ∧ w' = w := by
  go_enter Try.func55, Try.ntmps55
  go_wp2
  go_end0
  exact ⟨rfl, rfl⟩

def dec (l : Int) : Int := if 0 < l then l - 1 else l
theorem Dk.Ok.setLeft {D : Dk} (h : D.Ok) (l : Int) (b : Bool) (h0 : -1 ≤ l) (h1 : l ≤ 9223372036854775807) : Dk.Ok ⟨D.F, D.q, l, b⟩ := ⟨h.q0, h.q1, h0, h1, h.used, h.len, h.apart, h.safe⟩
theorem DiskAt.setLeft {w : World} {d m : Nat} {D : Dk} (h : DiskAt fp w d m D) (l : Int) (h0 : -1 ≤ l) (h1 : l ≤ 9223372036854775807) :
   DiskAt fp (w.setCell ⟨d, 2, none⟩ (.int .i64 l)) d m ⟨D.F, D.q, l, D.down⟩ ∧ Turn [d, m] w (w.setCell ⟨d, 2, none⟩ (.int .i64 l)) := by
  have hne := h.ne
  have ht : Turn [d, m] w (w.setCell ⟨d, 2, none⟩ (.int .i64 l)) := (Turn.refl _ _).setCell (by simp) _
  obtain ⟨es, h2, h3⟩ := h.files
  exact ⟨⟨h.ok.setLeft l _ h0 h1, fun x hx => h.up x (by simpa [World.setCell] using hx), (h.row.stored 2 _).1, es, h2.setCell (by simpa using hne.symm) _, h3.turn ht h.nb⟩, ht⟩
theorem DiskAt.setDown {w : World} {d m : Nat} {D : Dk} (h : DiskAt fp w d m D) (b : Bool) :
   DiskAt fp (w.setCell ⟨d, 3, none⟩ (.bool b)) d m ⟨D.F, D.q, D.left, b⟩ ∧ Turn [d, m] w (w.setCell ⟨d, 3, none⟩ (.bool b)) := by
  have hne := h.ne
  have ht : Turn [d, m] w (w.setCell ⟨d, 3, none⟩ (.bool b)) := (Turn.refl _ _).setCell (by simp) _
  obtain ⟨es, h2, h3⟩ := h.files
  exact ⟨⟨h.ok.setLeft _ _ h.ok.l0 h.ok.l1, fun x hx => h.up x (by simpa [World.setCell] using hx), (h.row.stored 3 _).1, es, h2.setCell (by simpa using hne.symm) _, h3.turn ht h.nb⟩, ht⟩

set_option maxRecDepth 100000 in
set_option maxHeartbeats 1000000 in
theorem deed_c (d m : Nat) (D : Dk) (x : Int) (K1 K2 : FuncId) (c1 c2 : Array Value) (w : World) (R : Int → World → Prop) (h : DiskAt fp w d m D)
   (e1 : ∀ args w, (callFunc K1 args).run Try.prog w = .ok (.enter K1 args) w) (e2 : ∀ args w, (callFunc K2 args).run Try.prog w = .ok (.enter K2 args) w)
   (hdown : D.down = true → R 7 w) (herr : D.down = false → x ≠ 0 → R x w)
   (htorn : D.down = false → x = 0 → D.left = 0 → ∀ w1, DiskAt fp w1 d m ⟨D.F, D.q, -1, true⟩ → Turn [d, m] w w1 → Calls Try.prog K2 c2 w1 fun e w2 => e = .returned (.tuple #[]) ∧ R 7 w2)
   (hdoes : D.down = false → x = 0 → D.left ≠ 0 → ∀ w1, DiskAt fp w1 d m ⟨D.F, D.q, dec D.left, false⟩ → Turn [d, m] w w1 → Calls Try.prog K1 c1 w1 fun e w2 => e = .returned (.tuple #[]) ∧ R 0 w2) :
   Calls Try.prog 49 #[.pointer (some ⟨d, 0, none⟩), .int .i64 x, .func (.func K1) #[] c1, .func (.func K2) #[] c2] w fun e w' => ∃ r : Int, e = .returned (.int .i64 r) ∧ R r w' := by
  have g2 := h.c2
  have g3 := h.c3
  have f2 := h.row.frozenAt 2
  have f3 := h.row.frozenAt 3
  have l0 := h.ok.l0
  have l1 := h.ok.l1
  replace hdown := Lib.hid hdown
  replace herr := Lib.hid herr
  replace htorn := Lib.hid htorn
  replace hdoes := Lib.hid hdoes
  cases hD : D.down
  · rw [hD] at g3
    by_cases hx : x = 0
    · subst hx
      by_cases hl : D.left = 0
      · have hk := h.setDown true
        have hk2 := hk.1.setLeft (-1) (by omega) (by omega)
        have hcall := htorn.out hD rfl hl _ hk2.1 (hk.2.trans hk2.2)
        replace hcall := Lib.hid hcall
        rw [hl] at g2
        clear hk hk2 htorn hdoes herr hdown
        replace hD := Lib.hid hD
        replace hl := Lib.hid hl
        go_enter Try.func49, Try.ntmps49
        go_wp2_with fail
        refine hcall.out.mono ?_
        rintro e w2 ⟨rfl, hR⟩
        replace hR := Lib.hid hR
        go_wp2
        go_ret
        exact ⟨7, rfl, hR.out⟩
      · by_cases h0 : 0 < D.left
        · have hk := h.setLeft (D.left - 1) (by omega) (by omega)
          have hd : dec D.left = D.left - 1 := if_pos h0
          rw [hd] at hdoes
          have hk1 := hk.1
          rw [hD] at hk1
          have hcall := hdoes.out hD rfl hl _ hk1 hk.2
          replace hcall := Lib.hid hcall
          clear hk hk1 htorn hdoes herr hdown hd
          replace hD := Lib.hid hD
          generalize D.left = l at *
          go_enter Try.func49, Try.ntmps49
          go_wp2_with fail
          refine hcall.out.mono ?_
          rintro e w2 ⟨rfl, hR⟩
          replace hR := Lib.hid hR
          go_wp2
          go_ret
          exact ⟨0, rfl, hR.out⟩
        · have hd : dec D.left = D.left := if_neg h0
          rw [hd] at hdoes
          have hk1 := h
          rw [show D = ⟨D.F, D.q, D.left, D.down⟩ from rfl, hD] at hk1
          have hcall := hdoes.out hD rfl hl _ hk1 (Turn.refl _ _)
          replace hcall := Lib.hid hcall
          clear hk1 htorn hdoes herr hdown hd
          replace hD := Lib.hid hD
          generalize D.left = l at *
          go_enter Try.func49, Try.ntmps49
          go_wp2_with fail
          refine hcall.out.mono ?_
          rintro e w2 ⟨rfl, hR⟩
          replace hR := Lib.hid hR
          go_wp2
          go_ret
          exact ⟨0, rfl, hR.out⟩
    · have hR := herr.out hD hx
      replace hR := Lib.hid hR
      clear htorn hdoes herr hdown
      replace hD := Lib.hid hD
      go_enter Try.func49, Try.ntmps49
      go_wp2
      go_ret
      exact ⟨x, rfl, hR.out⟩
  · rw [hD] at g3
    have hR := hdown.out hD
    replace hR := Lib.hid hR
    clear htorn hdoes herr hdown
    replace hD := Lib.hid hD
    go_enter Try.func49, Try.ntmps49
    go_wp2
    go_ret
    exact ⟨7, rfl, hR.out⟩
end Go.Proofs.Ytkmmaijkidkoiaa
