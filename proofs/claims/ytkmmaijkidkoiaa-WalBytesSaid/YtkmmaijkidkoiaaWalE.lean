/- A log: Append. -/
import Derived.Test.YtkmmaijkidkoiaaWalD
namespace Go.Proofs.Ytkmmaijkidkoiaa
open Go Go.RowKit
variable {fp : Nat → Prop}

/-- The deeds of an append. -/
def Dk.log (D : Dk) (nm FB : List UInt8) : Int × Dk := andDo (D.append nm FB) (·.sync nm)

set_option maxRecDepth 100000 in
set_option maxHeartbeats 1000000 in
theorem lapp_all (d m g bl bg : Nat) (D : Dk) (nm : ByteArray) (last : Int) (dead : Bool) (ep : Int) (A L : Option Addr) (n c : Nat) (l : List Ver) (w : World) (h : DiskAt fp w d m D) (hlog : LogAt w g d nm last dead) (hnm : nm.size ≤ 1099511627776)
   (gl : w.cell? ⟨bl, 0, none⟩ = some (.pointer (some ⟨g, 0, none⟩))) (g0 : w.cell? ⟨bg, 0, none⟩ = some (.int .i64 ep)) (g1 : w.cell? ⟨bg, 1, none⟩ = some (.slice A n c))
   (hA : Rd w A (l.flatMap Ver.cells)) (nA : ∀ g o, A = some ⟨g, o, none⟩ → g ∉ [d, m]) (hn : l.length = n) (hnb : n ≤ 1000) (hv : ∀ v ∈ l, v.okv = true ∧ v.key.size ≤ 100000) (h0 : 0 ≤ ep) (h1 : ep ≤ 10000) (nl : bl ∉ [d, m]) (ng : bg ∉ [d, m]) (n0 : g ∉ [d, m])
   (hL : Rd w L ([(20, #[.pointer (some ⟨bl, 0, none⟩), .pointer (some ⟨bg, 0, none⟩)]), (24, #[.pointer (some ⟨bl, 0, none⟩)])].map fv)) (nL : ∀ g o, L = some ⟨g, o, none⟩ → g ∉ [d, m]) :
   Calls Try.prog 19 #[.slice L 2 2] w fun e w' => e = .returned (.int .i64 (D.log nm.data.toList (frame (gbytes ep l))).1) ∧ DiskAt fp w' d m (D.log nm.data.toList (frame (gbytes ep l))).2 ∧ Turn [d, m] w w' := by
  generalize hFB : frame (gbytes ep l) = FB
  let S : Nat → Int × Dk := fun k => match k with
    | 0 => (0, D)
    | 1 => D.append nm.data.toList FB
    | _ => D.log nm.data.toList FB
  refine (all_c L 2 2 _ w rfl (by decide) ?_ (fun k w' => (S k).1 = 0 ∧ DiskAt fp w' d m (S k).2 ∧ Turn [d, m] w w') (fun r w' => r = (D.log nm.data.toList FB).1 ∧ DiskAt fp w' d m (D.log nm.data.toList FB).2 ∧ Turn [d, m] w w') ⟨rfl, h, .refl _ _⟩ (fun k w' hI => hI.2.2.rd hL nL) ?_).mono ?_
  · intro f hf
    simp only [List.mem_cons, List.not_mem_nil, or_false] at hf
    rcases hf with rfl | rfl
    · exact ent Try.func20 (by kernel_rfl) rfl
    · exact ent Try.func24 (by kernel_rfl) rfl
  · intro k f w' hf hI
    obtain ⟨hok, hD, ht⟩ := hI
    match k with
    | 0 =>
      simp only [List.getElem?_cons_zero, Option.some.injEq] at hf
      subst hf
      have hc := lapp1_c d m g bl bg D nm last dead ep A n c l w' hD (hlog.turn ht n0) hnm (ht.cell gl nl) (ht.cell g0 ng) (ht.cell g1 ng) (ht.rd hA nA) hn hnb hv h0 h1 nl ng n0
      rw [hFB] at hc
      refine hc.mono ?_
      rintro e w2 ⟨rfl, h2, ht2⟩
      refine ⟨_, rfl, fun hr => ⟨hr, h2, ht.trans ht2⟩, fun hr => ?_⟩
      have e4 : D.log nm.data.toList FB = D.append nm.data.toList FB := andDo_err hr
      rw [e4]
      exact ⟨rfl, h2, ht.trans ht2⟩
    | 1 =>
      simp only [List.getElem?_cons_succ, List.getElem?_cons_zero, Option.some.injEq] at hf
      subst hf
      have hS : S 1 = D.append nm.data.toList FB := rfl
      rw [hS] at hok hD
      refine (lapp2_c d m g bl _ nm last dead w' hD (hlog.turn ht n0) hnm (ht.cell gl nl)).mono ?_
      rintro e w2 ⟨rfl, h2, ht2⟩
      have e4 : D.log nm.data.toList FB = (D.append nm.data.toList FB).2.sync nm.data.toList := andDo_ok hok
      have hS2 : S 2 = D.log nm.data.toList FB := rfl
      rw [hS2, e4]
      exact ⟨_, rfl, fun hr => ⟨hr, h2, ht.trans ht2⟩, fun hr => ⟨rfl, h2, ht.trans ht2⟩⟩
    | k + 2 => simp at hf
  · rintro e w' ⟨r, rfl, h0, h1⟩
    by_cases hr : r = 0
    · obtain ⟨h2, h3, h4⟩ := h0 hr
      have hS2 : S 2 = D.log nm.data.toList FB := rfl
      rw [hS2] at h2 h3
      exact ⟨by rw [h2, hr], h3, h4⟩
    · obtain ⟨h2, h3, h4⟩ := h1 hr
      exact ⟨by rw [h2], h3, h4⟩

/-- What an append to a log comes to: its answer, the disk, the log's last epoch, whether it is dead. -/
structure LgR where
  r : Int
  D : Dk
  last : Int
  dead : Bool
def logApp (D : Dk) (nm : List UInt8) (last : Int) (dead : Bool) (ep : Int) (l : List Ver) : LgR :=
  if okG ep l && decide (last < ep) then
    if dead || D.down then ⟨7, D, last, dead⟩
    else ⟨(D.log nm (frame (gbytes ep l))).1, (D.log nm (frame (gbytes ep l))).2, if (D.log nm (frame (gbytes ep l))).1 = 0 then ep else last, (D.log nm (frame (gbytes ep l))).1 == 7⟩
  else ⟨1, D, last, dead⟩

theorem okG_in {ep : Int} {l : List Ver} (h : okG ep l = true) : 1 ≤ ep ∧ ep ≤ 10000 ∧ ∀ v ∈ l, v.okv = true := by
  simp only [okG, Bool.and_eq_true, decide_eq_true_eq, Bool.not_eq_true'] at h
  refine ⟨h.1.1, h.1.2, fun v hv => ?_⟩
  have := List.any_eq_false.1 h.2 v hv
  simp only [oddv, Bool.or_eq_true, not_or, Bool.not_eq_true] at this
  simpa using this.1

set_option maxRecDepth 100000 in
set_option maxHeartbeats 1000000 in
theorem lappend_c (d m g : Nat) (D : Dk) (nm : ByteArray) (last : Int) (dead : Bool) (ep : Int) (A : Option Addr) (n c : Nat) (l : List Ver) (w : World) (h : DiskAt fp w d m D) (hlog : LogAt w g d nm last dead) (hnm : nm.size ≤ 1099511627776)
   (hA : Rd w A (l.flatMap Ver.cells)) (nA : ∀ g' o, A = some ⟨g', o, none⟩ → g' ∉ [d, m]) (hn : l.length = n) (hnb : n ≤ 1000) (hv : ∀ v ∈ l, v.key.size ≤ 100000) (n0 : g ∉ [d, m]) :
   Calls Try.prog 8 #[.pointer (some ⟨g, 0, none⟩), .agg #[.int .i64 ep, .slice A n c]] w fun e w' => e = .returned (.int .i64 (logApp D nm.data.toList last dead ep l).r) ∧ DiskAt fp w' d m (logApp D nm.data.toList last dead ep l).D ∧
      LogAt w' g d nm (logApp D nm.data.toList last dead ep l).last (logApp D nm.data.toList last dead ep l).dead ∧ Turn [d, m, g] w w' := by
  have hgt := hlog.lt
  have hd := h.ltd
  have hdm := h.ltm
  have c0 : w.cell? ⟨g, 0, none⟩ = some (.pointer (some ⟨d, 0, none⟩)) := World.ownsRow.cellAt hlog 0 (by omega)
  have c2 : w.cell? ⟨g, 2, none⟩ = some (.int .i64 last) := World.ownsRow.cellAt hlog 2 (by omega)
  have c3 : w.cell? ⟨g, 3, none⟩ = some (.bool dead) := World.ownsRow.cellAt hlog 3 (by omega)
  have hT0 : Below w.heap.size w ((w.alloc (.cells #[.pointer (some ⟨g, 0, none⟩)] 25)).alloc (.cells #[.int .i64 ep, .slice A n c] 32)) := ((Below.refl _ _).alloc (Nat.le_refl _) _).alloc (by simp) _
  have hres : logApp D nm.data.toList last dead ep l = if okG ep l && decide (last < ep) then
    if dead || D.down then ⟨7, D, last, dead⟩
    else ⟨(D.log nm.data.toList (frame (gbytes ep l))).1, (D.log nm.data.toList (frame (gbytes ep l))).2, if (D.log nm.data.toList (frame (gbytes ep l))).1 = 0 then ep else last, (D.log nm.data.toList (frame (gbytes ep l))).1 == 7⟩
    else ⟨1, D, last, dead⟩ := rfl
  have hmay := walmay_c ep A n c l ((w.alloc (.cells #[.pointer (some ⟨g, 0, none⟩)] 25)).alloc (.cells #[.int .i64 ep, .slice A n c] 32)).drew (hA.ext hT0.drew) hn (by omega) (fun v hm => by have := hv v hm; omega)
  have hS : ∀ w', Below ((w.alloc (.cells #[.pointer (some ⟨g, 0, none⟩)] 25)).alloc (.cells #[.int .i64 ep, .slice A n c] 32)).heap.size ((w.alloc (.cells #[.pointer (some ⟨g, 0, none⟩)] 25)).alloc (.cells #[.int .i64 ep, .slice A n c] 32)) w' →
     w'.cell? ⟨w.heap.size, 0, none⟩ = some (.pointer (some ⟨g, 0, none⟩)) ∧ w'.cell? ⟨w.heap.size + 1, 0, none⟩ = some (.int .i64 ep) ∧ w'.cell? ⟨w.heap.size + 1, 1, none⟩ = some (.slice A n c) ∧ w'.cell? ⟨g, 2, none⟩ = some (.int .i64 last) := by
    intro w' hB
    exact ⟨bel_cell hB (by simp <;> omega) (by go_simp), bel_cell hB (by simp <;> omega) (by go_simp), bel_cell hB (by simp <;> omega) (by go_simp), bel_cell (hT0.trans (hB.mono hT0.size)) hgt c2⟩
  have hall : okG ep l = true → ∀ w' L, DiskAt fp w' d m D → LogAt w' g d nm last dead → Below w.heap.size w w' → w'.cell? ⟨w.heap.size, 0, none⟩ = some (.pointer (some ⟨g, 0, none⟩)) → w'.cell? ⟨w.heap.size + 1, 0, none⟩ = some (.int .i64 ep) → w'.cell? ⟨w.heap.size + 1, 1, none⟩ = some (.slice A n c) →
      Rd w' (some ⟨L, 0, none⟩) [.func (.func 20) #[] #[.pointer (some ⟨w.heap.size, 0, none⟩), .pointer (some ⟨w.heap.size + 1, 0, none⟩)], .func (.func 24) #[] #[.pointer (some ⟨w.heap.size, 0, none⟩)]] → w.heap.size ≤ L →
      Calls Try.prog 19 #[.slice (some ⟨L, 0, none⟩) 2 2] w' fun e w2 => e = .returned (.int .i64 (D.log nm.data.toList (frame (gbytes ep l))).1) ∧ DiskAt fp w2 d m (D.log nm.data.toList (frame (gbytes ep l))).2 ∧ Turn [d, m] w' w2 := by
    intro hok w' L h' hlog' hB g0 g1 g2 hL hLs
    obtain ⟨e1, e2, e3⟩ := okG_in hok
    exact lapp_all d m g w.heap.size (w.heap.size + 1) D nm last dead ep A (some ⟨L, 0, none⟩) n c l w' h' hlog' hnm g0 g1 g2 (hA.ext hB) nA hn hnb (fun v hm => ⟨e3 v hm, hv v hm⟩) (by omega) e2 (by simp; omega) (by simp; omega) n0 hL (by intro g' o e; injection e with e; injection e with e1 e2; subst e1; simp; omega)
  generalize logApp D nm.data.toList last dead ep l = R at *
  generalize D.log nm.data.toList (frame (gbytes ep l)) = G at *
  generalize okG ep l = q at *
  have hal := fun w' h' => alive_c (fp := fp) d m D w' h'
  replace hall := Lib.hid hall
  replace hmay := Lib.hid hmay
  replace hS := Lib.hid hS
  replace hT0 := Lib.hid hT0
  replace hal := Lib.hid hal
  replace h := Lib.hid h
  replace hlog := Lib.hid hlog
  clear hn
  cases q
  · replace hres := Lib.hid hres
    go_enter Try.func8, Try.ntmps8
    go_wp2_with fail
    first | go_region_with ((go_at_call 17; refine hmay.out.mono ?_; rintro e w1 ⟨rfl, hB1⟩; replace hB1 := (Below.refl _ _).drew.trans hB1)) | fail
    all_goals
      have hBB := hT0.out.trans (hB1.mono hT0.out.size)
      go_wp2
      go_ret
      rw [hres.out]
      exact ⟨rfl, h.out.ext hBB, hlog.out.turn (S := []) (.ofBelow hBB) (by simp), .ofBelow hBB⟩
  · by_cases hle : last < ep
    · have hallt := hall.out rfl
      replace hallt := Lib.hid hallt
      have hdd : decide (last < ep) = true := by simpa using hle
      rw [hdd] at hres
      replace hres := Lib.hid hres
      go_enter Try.func8, Try.ntmps8
      go_wp2_with fail
      first | go_region_with ((go_at_call 17; refine hmay.out.mono ?_; rintro e w1 ⟨rfl, hB1⟩; replace hB1 := (Below.refl _ _).drew.trans hB1; obtain ⟨k1, k2, k3, k4⟩ := hS.out _ hB1; replace hB1 := Lib.hid hB1)) | fail
      all_goals
        have hBB := hT0.out.trans (hB1.out.mono hT0.out.size)
        have h1 := h.out.ext hBB
        have hlog1 : LogAt w1 g d nm last dead := hlog.out.turn (S := []) (.ofBelow hBB) (by simp)
        have j0 := bel_cell hBB hgt c0
        have j3 := bel_cell hBB hgt c3
        have hsz1 := hBB.size
        have z1 := cell_lt k1
        have z2 := cell_lt k2
        replace h1 := Lib.hid h1
        replace hlog1 := Lib.hid hlog1
        replace hBB := Lib.hid hBB
        cases dead
        · cases hdn : D.down
          · rw [hdn] at hres
            have hal1 := hal.out w1 h1.out
            rw [hdn] at hal1
            replace hal1 := Lib.hid hal1
            replace hdn := Lib.hid hdn
            go_wp2_with fail
            refine hal1.out.mono ?_
            rintro e w1' ⟨rfl, rfl⟩
            go_wp2_with fail
            refine (hallt.out _ w1.heap.size (h1.out.ext ((Below.refl _ _).alloc (Nat.le_refl _) _)) (hlog1.out.turn (S := []) ((Turn.refl _ _).alloc _) (by simp)) (hBB.out.alloc hBB.out.size _) (cell_alloc k1 _) (cell_alloc k2 _) (cell_alloc k3 _) (Rd.newAt w1 _ rfl [_, _] 60) hsz1).mono ?_
            rintro e w4 ⟨rfl, h4, ht4⟩
            have ht4' : Turn [d, m] w1 w4 := ((Turn.refl _ _).alloc _).trans ht4
            have hlog4 : LogAt w4 g d nm last false := hlog1.out.turn ht4' n0
            have y1 := ht4'.cell k1 (by simp; omega)
            have y2 := ht4'.cell k2 (by simp; omega)
            have y3 := ht4'.cell k3 (by simp; omega)
            have q2 : w4.cell? ⟨g, 2, none⟩ = some (.int .i64 last) := World.ownsRow.cellAt hlog4 2 (by omega)
            have q3 : w4.cell? ⟨g, 3, none⟩ = some (.bool false) := World.ownsRow.cellAt hlog4 3 (by omega)
            have f2 := World.ownsRow.frozenAt hlog4 2
            have f3 := World.ownsRow.frozenAt hlog4 3
            obtain ⟨r, DG⟩ := G
            simp only at h4
            have s2 := World.ownsRow.stored hlog4 2 (.int .i64 ep)
            have s23 := World.ownsRow.stored s2.1 3 (.bool (r == 7))
            have s3 := World.ownsRow.stored hlog4 3 (.bool (r == 7))
            have p2 : (w4.setCell ⟨g, 2, none⟩ (.int .i64 ep)).cell? ⟨g, 3, none⟩ = some (.bool false) := World.ownsRow.cellAt s2.1 3 (by omega)
            have pf := World.ownsRow.frozenAt s2.1 3
            have hTw : Turn [d, m, g] w w4 := (Turn.ofBelow hBB.out).trans (ht4'.mono (by simp))
            have hng : g ≠ d ∧ g ≠ m := by simpa using n0
            have hnb4 := hlog4.nb
            replace h4 := Lib.hid h4
            replace s2 := Lib.hid s2
            replace s23 := Lib.hid s23
            replace s3 := Lib.hid s3
            replace hTw := Lib.hid hTw
            replace ht4' := Lib.hid ht4'
            replace ht4 := Lib.hid ht4
            replace hlog4 := Lib.hid hlog4
            replace hnb4 := Lib.hid hnb4
            have hD1 : ∀ u : Value, DiskAt fp (w4.setCell ⟨g, 3, none⟩ u) d m DG := fun u => h4.out.turn (S := [g]) ((Turn.refl _ _).setCell (by simp) _) (by simpa using hng.1.symm) (by simpa using hng.2.symm) (by intro x hx; simp at hx; subst hx; exact .inl hnb4.out)
            have hD2 : ∀ u v : Value, DiskAt fp ((w4.setCell ⟨g, 2, none⟩ u).setCell ⟨g, 3, none⟩ v) d m DG := fun u v => h4.out.turn (S := [g]) (((Turn.refl _ _).setCell (by simp) _).setCell (by simp) _) (by simpa using hng.1.symm) (by simpa using hng.2.symm) (by intro x hx; simp at hx; subst hx; exact .inl hnb4.out)
            replace hD1 := Lib.hid hD1
            replace hD2 := Lib.hid hD2
            by_cases hr0 : r = 0
            · subst hr0
              go_wp2
              go_ret
              rw [hres.out]
              refine ⟨rfl, hD2.out _ _, s23.out.1, (hTw.out.setCell (by simp) _).setCell (by simp) _⟩
            · by_cases hr7 : r = 7
              · subst hr7
                go_wp2
                go_ret
                rw [hres.out]
                refine ⟨rfl, hD1.out _, s3.out.1, (hTw.out.setCell (by simp) _)⟩
              · have hb7 : (r == 7) = false := by simpa using hr7
                have hb0 : (r == 0) = false := by simpa using hr0
                rw [hb7] at s3
                go_wp2
                go_ret
                rw [hres.out]
                refine ⟨rfl, hD1.out _, ?_, (hTw.out.setCell (by simp) _)⟩
                have e1 : (if r = 0 then ep else last) = last := if_neg hr0
                simpa [hr0, hb7, LogAt] using s3.out.1
          · rw [hdn] at hres
            have hal1 := hal.out w1 h1.out
            rw [hdn] at hal1
            replace hal1 := Lib.hid hal1
            replace hdn := Lib.hid hdn
            go_wp2_with fail
            refine hal1.out.mono ?_
            rintro e w1' ⟨rfl, rfl⟩
            go_wp2
            go_ret
            rw [hres.out]
            exact ⟨rfl, h1.out, hlog1.out, .ofBelow hBB.out⟩
        · go_wp2
          go_ret
          rw [hres.out]
          exact ⟨rfl, h1.out, hlog1.out, .ofBelow hBB.out⟩
    · have hdd : decide (last < ep) = false := by simpa using hle
      rw [hdd] at hres
      replace hres := Lib.hid hres
      go_enter Try.func8, Try.ntmps8
      go_wp2_with fail
      first | go_region_with ((go_at_call 17; refine hmay.out.mono ?_; rintro e w1 ⟨rfl, hB1⟩; replace hB1 := (Below.refl _ _).drew.trans hB1; obtain ⟨k1, k2, k3, k4⟩ := hS.out _ hB1; replace hB1 := Lib.hid hB1)) | fail
      all_goals
        have hBB := hT0.out.trans (hB1.out.mono hT0.out.size)
        go_wp2
        go_ret
        rw [hres.out]
        exact ⟨rfl, h.out.ext hBB, hlog.out.turn (S := []) (.ofBelow hBB) (by simp), .ofBelow hBB⟩
end Go.Proofs.Ytkmmaijkidkoiaa
