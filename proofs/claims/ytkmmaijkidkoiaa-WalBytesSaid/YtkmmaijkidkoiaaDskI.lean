/- The disk: Create, Append, Sync, Remove. -/
import Derived.Test.YtkmmaijkidkoiaaDskH
namespace Go.Proofs.Ytkmmaijkidkoiaa
open Go Go.RowKit
variable {fp : Nat → Prop}

/-- A deed on a disk's state: an error that was told already; what is there when it is done, and when the power goes. -/
def Dk.deed (D : Dk) (e : Int) (A B : Files) : Int × Dk :=
  if D.down then (7, D) else if e ≠ 0 then (e, D) else if D.left = 0 then (7, ⟨B, D.q, -1, true⟩) else (0, ⟨A, D.q, dec D.left, false⟩)
def Dk.create (D : Dk) (s : List UInt8) : Int × Dk := D.deed (if okName s then if D.F.has s then 9 else if 400 ≤ D.F.length then 6 else 0 else 1) (D.F.put ⟨s, [], 0⟩) D.F
def Dk.append (D : Dk) (s bs : List UInt8) : Int × Dk :=
  D.deed (if D.F.has s then if D.q < D.F.used + bs.length then 6 else 0 else 8) (D.F.put ⟨s, (D.F.get s).bs ++ bs, (D.F.get s).safe⟩) (D.F.put ⟨s, (D.F.get s).bs ++ bs, (D.F.get s).safe⟩)
def Dk.sync (D : Dk) (s : List UInt8) : Int × Dk := D.deed (if D.F.has s then 0 else 8) (D.F.put ⟨s, (D.F.get s).bs, (D.F.get s).bs.length⟩) D.F
def Dk.remove (D : Dk) (s : List UInt8) : Int × Dk := D.deed (if D.F.has s then 0 else 8) (D.F.del s) D.F
def Dk.rename (D : Dk) (s t : List UInt8) : Int × Dk :=
  D.deed (if D.F.has s then if okName t then 0 else 1 else 8) ((D.F.del s).put ⟨t, (D.F.get s).bs, (D.F.get s).safe⟩) D.F

theorem ent {f : FuncId} {fn : Func} {c : Code} (hf : Try.prog.funcs[f]? = some fn) (hname : (fn.name == "runtime.NumGoroutine") = false) (hb : fn.body = some c) : ∀ args w, (callFunc f args).run Try.prog w = .ok (.enter f args) w := by
  intro args w
  have h1 : fn.name ≠ "runtime.NumGoroutine" := by simpa using hname
  simp [callFunc, hf, h1, hb, mark]

theorem deed_spec (d m : Nat) (D : Dk) (x : Int) (A B : Files) (K1 K2 : FuncId) (c1 c2 : Array Value) (w : World) (h : DiskAt fp w d m D)
   (e1 : ∀ args w, (callFunc K1 args).run Try.prog w = .ok (.enter K1 args) w) (e2 : ∀ args w, (callFunc K2 args).run Try.prog w = .ok (.enter K2 args) w)
   (hA : x = 0 → ∀ w1 l b, DiskAt fp w1 d m ⟨D.F, D.q, l, b⟩ → Turn [d, m] w w1 → Calls Try.prog K1 c1 w1 fun e w2 => e = .returned (.tuple #[]) ∧ DiskAt fp w2 d m ⟨A, D.q, l, b⟩ ∧ Turn [d, m] w1 w2)
   (hB : x = 0 → ∀ w1 l b, DiskAt fp w1 d m ⟨D.F, D.q, l, b⟩ → Turn [d, m] w w1 → Calls Try.prog K2 c2 w1 fun e w2 => e = .returned (.tuple #[]) ∧ DiskAt fp w2 d m ⟨B, D.q, l, b⟩ ∧ Turn [d, m] w1 w2) :
   Calls Try.prog 49 #[.pointer (some ⟨d, 0, none⟩), .int .i64 x, .func (.func K1) #[] c1, .func (.func K2) #[] c2] w fun e w' => e = .returned (.int .i64 (D.deed x A B).1) ∧ DiskAt fp w' d m (D.deed x A B).2 ∧ Turn [d, m] w w' := by
  refine (deed_c d m D x K1 K2 c1 c2 w (fun r w' => r = (D.deed x A B).1 ∧ DiskAt fp w' d m (D.deed x A B).2 ∧ Turn [d, m] w w') h e1 e2 ?_ ?_ ?_ ?_).mono ?_
  · intro hd
    rw [show D.deed x A B = (7, D) by simp [Dk.deed, hd]]
    exact ⟨rfl, h, .refl _ _⟩
  · intro hd hx
    rw [show D.deed x A B = (x, D) by simp [Dk.deed, hd, hx]]
    exact ⟨rfl, h, .refl _ _⟩
  · intro hd hx hl w1 h1 ht
    refine (hB hx w1 _ _ h1 ht).mono ?_
    rintro e w2 ⟨he, h2, ht2⟩
    refine ⟨he, ?_⟩
    rw [show D.deed x A B = (7, ⟨B, D.q, -1, true⟩) by simp [Dk.deed, hd, hx, hl]]
    exact ⟨rfl, h2, ht.trans ht2⟩
  · intro hd hx hl w1 h1 ht
    refine (hA hx w1 _ _ h1 ht).mono ?_
    rintro e w2 ⟨he, h2, ht2⟩
    refine ⟨he, ?_⟩
    rw [show D.deed x A B = (0, ⟨A, D.q, dec D.left, false⟩) by simp [Dk.deed, hd, hx, hl]]
    exact ⟨rfl, h2, ht.trans ht2⟩
  · rintro e w' ⟨r, he, hr, h2⟩
    exact ⟨by rw [he, hr], h2⟩

theorem nothing_s (d m : Nat) (D : Dk) (w : World) (h : DiskAt fp w d m D) : Calls Try.prog 55 #[] w fun e w2 => e = .returned (.tuple #[]) ∧ DiskAt fp w2 d m D ∧ Turn [d, m] w w2 :=
  (nothing_c w).mono (by rintro e w' ⟨he, rfl⟩; exact ⟨he, h, .refl _ _⟩)

set_option maxRecDepth 100000 in
set_option maxHeartbeats 1000000 in
theorem remove_c (d m : Nat) (D : Dk) (s : ByteArray) (w : World) (h : DiskAt fp w d m D) (hs : s.size ≤ 1099511627776) :
   Calls Try.prog 36 #[.pointer (some ⟨d, 0, none⟩), .string s] w fun e w' => e = .returned (.int .i64 (D.remove s.data.toList).1) ∧ DiskAt fp w' d m (D.remove s.data.toList).2 ∧ Turn [d, m] w w' := by
  have hd := h.ltd
  have hdm := h.ltm
  have ht : ∀ w1, DiskAt fp w1 d m D → Calls Try.prog 30 #[.pointer (some ⟨d, 0, none⟩), .string s] w1 fun e w' => e = .returned (.int .i64 (if D.F.has s.data.toList then 0 else 8)) ∧ Below w1.heap.size w1 w' := fun w1 h1 => there_c d m D s w1 h1 hs
  have hq : ∀ w1 bd bn, DiskAt fp w1 d m D → w1.cell? ⟨bd, 0, none⟩ = some (.pointer (some ⟨d, 0, none⟩)) → w1.cell? ⟨bn, 0, none⟩ = some (.string s) → d < bd → d < bn → m < bd → m < bn →
     Calls Try.prog 49 #[.pointer (some ⟨d, 0, none⟩), .int .i64 (if D.F.has s.data.toList then 0 else 8), .func (.func 68) #[] #[.pointer (some ⟨bd, 0, none⟩), .pointer (some ⟨bn, 0, none⟩)], .func (.func 55) #[] #[]] w1 fun e w' => e = .returned (.int .i64 (D.remove s.data.toList).1) ∧ DiskAt fp w' d m (D.remove s.data.toList).2 ∧ Turn [d, m] w1 w' := by
    intro w1 bd bn h1 g1 g2 l1 l2 l3 l4
    refine deed_spec d m D _ _ _ _ _ _ _ w1 h1 (ent Try.func68 (by kernel_rfl) rfl) (ent Try.func55 (by kernel_rfl) rfl) (fun _ w2 l b h2 ht2 => ?_) (fun _ w2 l b h2 ht2 => nothing_s d m _ w2 h2)
    exact remove1_c d m bd bn _ s w2 h2 hs (ht2.cell g1 (by simp; omega)) (ht2.cell g2 (by simp; omega))
  generalize D.remove s.data.toList = R at *
  generalize (if D.F.has s.data.toList then (0 : Int) else 8) = x at *
  have hT : Turn [d, m] w ((w.alloc (.cells #[.pointer (some ⟨d, 0, none⟩)] 23)).alloc (.cells #[.string s] 9)) := ((Turn.refl _ _).alloc _).alloc _
  have hT0 : Below w.heap.size w ((w.alloc (.cells #[.pointer (some ⟨d, 0, none⟩)] 23)).alloc (.cells #[.string s] 9)) := ((Below.refl _ _).alloc (Nat.le_refl _) _).alloc (by simp) _
  have hS : ∀ w', Turn [d, m] ((w.alloc (.cells #[.pointer (some ⟨d, 0, none⟩)] 23)).alloc (.cells #[.string s] 9)) w' → w'.cell? ⟨w.heap.size, 0, none⟩ = some (.pointer (some ⟨d, 0, none⟩)) ∧ w'.cell? ⟨w.heap.size + 1, 0, none⟩ = some (.string s) := by
    intro w' ht
    exact ⟨ht.cell (by go_simp) (by simp; omega), ht.cell (by go_simp) (by simp; omega)⟩
  replace ht := Lib.hid ht
  replace hq := Lib.hid hq
  replace hT := Lib.hid hT
  replace hT0 := Lib.hid hT0
  replace hS := Lib.hid hS
  go_enter Try.func36, Try.ntmps36
  go_wp2
  go_region_held3 (fun w' => w'.cell? ⟨w.heap.size, 0, none⟩ = some (.pointer (some ⟨d, 0, none⟩)) ∧ w'.cell? ⟨w.heap.size + 1, 0, none⟩ = some (.string s))
    (first
      | exact hS.out _ (Turn.refl _ _).drew
      | exact hS.out _ ht4.out
      | exact hS.out _ hB3.out)
    ((first
      | (go_at_call 30; refine (ht.out _ (h.ext hT0.out.drew)).mono ?_; rintro e w3 ⟨rfl, hB3⟩; have h3 := Lib.hid ((h.ext hT0.out.drew).ext hB3); replace hB3 := Lib.hid ((Turn.refl [d, m] _).drew.trans (Turn.ofBelow hB3)))
      | (go_at_call 49; refine (hq.out _ _ _ h3.out (hS.out _ hB3.out).1 (hS.out _ hB3.out).2 (by omega) (by omega) (by omega) (by omega)).mono ?_; rintro e w4 ⟨rfl, h4, ht4⟩; replace h4 := Lib.hid h4; replace ht4 := Lib.hid (hB3.out.trans ht4))))
  all_goals go_wp2
  all_goals go_ret
  all_goals exact ⟨rfl, h4.out, hT.out.trans ht4.out⟩

set_option maxRecDepth 100000 in
set_option maxHeartbeats 1000000 in
theorem sync_c (d m : Nat) (D : Dk) (s : ByteArray) (w : World) (h : DiskAt fp w d m D) (hs : s.size ≤ 1099511627776) :
   Calls Try.prog 25 #[.pointer (some ⟨d, 0, none⟩), .string s] w fun e w' => e = .returned (.int .i64 (D.sync s.data.toList).1) ∧ DiskAt fp w' d m (D.sync s.data.toList).2 ∧ Turn [d, m] w w' := by
  have hd := h.ltd
  have hdm := h.ltm
  have ht : ∀ w1, DiskAt fp w1 d m D → Calls Try.prog 30 #[.pointer (some ⟨d, 0, none⟩), .string s] w1 fun e w' => e = .returned (.int .i64 (if D.F.has s.data.toList then 0 else 8)) ∧ Below w1.heap.size w1 w' := fun w1 h1 => there_c d m D s w1 h1 hs
  have hq : ∀ w1 bd bn, DiskAt fp w1 d m D → w1.cell? ⟨bd, 0, none⟩ = some (.pointer (some ⟨d, 0, none⟩)) → w1.cell? ⟨bn, 0, none⟩ = some (.string s) → d < bd → d < bn → m < bd → m < bn →
     Calls Try.prog 49 #[.pointer (some ⟨d, 0, none⟩), .int .i64 (if D.F.has s.data.toList then 0 else 8), .func (.func 54) #[] #[.pointer (some ⟨bd, 0, none⟩), .pointer (some ⟨bn, 0, none⟩)], .func (.func 55) #[] #[]] w1 fun e w' => e = .returned (.int .i64 (D.sync s.data.toList).1) ∧ DiskAt fp w' d m (D.sync s.data.toList).2 ∧ Turn [d, m] w1 w' := by
    intro w1 bd bn h1 g1 g2 l1 l2 l3 l4
    have hx2 : (if D.F.has s.data.toList then (0 : Int) else 8) = 0 → D.F.has s.data.toList = true := by intro hx; cases hh : D.F.has s.data.toList <;> simp [hh] at hx ⊢
    refine deed_spec d m D _ _ _ _ _ _ _ w1 h1 (ent Try.func54 (by kernel_rfl) rfl) (ent Try.func55 (by kernel_rfl) rfl) (fun hx w2 l b h2 ht2 => ?_) (fun _ w2 l b h2 ht2 => nothing_s d m _ w2 h2)
    exact sync1_c d m bd bn _ s w2 h2 hs (ht2.cell g1 (by simp; omega)) (ht2.cell g2 (by simp; omega)) (hx2 hx)
  generalize D.sync s.data.toList = R at *
  generalize (if D.F.has s.data.toList then (0 : Int) else 8) = x at *
  have hT : Turn [d, m] w ((w.alloc (.cells #[.pointer (some ⟨d, 0, none⟩)] 23)).alloc (.cells #[.string s] 9)) := ((Turn.refl _ _).alloc _).alloc _
  have hT0 : Below w.heap.size w ((w.alloc (.cells #[.pointer (some ⟨d, 0, none⟩)] 23)).alloc (.cells #[.string s] 9)) := ((Below.refl _ _).alloc (Nat.le_refl _) _).alloc (by simp) _
  have hS : ∀ w', Turn [d, m] ((w.alloc (.cells #[.pointer (some ⟨d, 0, none⟩)] 23)).alloc (.cells #[.string s] 9)) w' → w'.cell? ⟨w.heap.size, 0, none⟩ = some (.pointer (some ⟨d, 0, none⟩)) ∧ w'.cell? ⟨w.heap.size + 1, 0, none⟩ = some (.string s) := by
    intro w' ht
    exact ⟨ht.cell (by go_simp) (by simp; omega), ht.cell (by go_simp) (by simp; omega)⟩
  replace ht := Lib.hid ht
  replace hq := Lib.hid hq
  replace hT := Lib.hid hT
  replace hT0 := Lib.hid hT0
  replace hS := Lib.hid hS
  go_enter Try.func25, Try.ntmps25
  go_wp2
  go_region_held3 (fun w' => w'.cell? ⟨w.heap.size, 0, none⟩ = some (.pointer (some ⟨d, 0, none⟩)) ∧ w'.cell? ⟨w.heap.size + 1, 0, none⟩ = some (.string s))
    (first
      | exact hS.out _ (Turn.refl _ _).drew
      | exact hS.out _ ht4.out
      | exact hS.out _ hB3.out)
    ((first
      | (go_at_call 30; refine (ht.out _ (h.ext hT0.out.drew)).mono ?_; rintro e w3 ⟨rfl, hB3⟩; have h3 := Lib.hid ((h.ext hT0.out.drew).ext hB3); replace hB3 := Lib.hid ((Turn.refl [d, m] _).drew.trans (Turn.ofBelow hB3)))
      | (go_at_call 49; refine (hq.out _ _ _ h3.out (hS.out _ hB3.out).1 (hS.out _ hB3.out).2 (by omega) (by omega) (by omega) (by omega)).mono ?_; rintro e w4 ⟨rfl, h4, ht4⟩; replace h4 := Lib.hid h4; replace ht4 := Lib.hid (hB3.out.trans ht4))))
  all_goals go_wp2
  all_goals go_ret
  all_goals exact ⟨rfl, h4.out, hT.out.trans ht4.out⟩

set_option maxRecDepth 100000 in
set_option maxHeartbeats 1000000 in
theorem create_c (d m : Nat) (D : Dk) (s : ByteArray) (w : World) (h : DiskAt fp w d m D) (hs : s.size ≤ 1099511627776) :
   Calls Try.prog 38 #[.pointer (some ⟨d, 0, none⟩), .string s] w fun e w' => e = .returned (.int .i64 (D.create s.data.toList).1) ∧ DiskAt fp w' d m (D.create s.data.toList).2 ∧ Turn [d, m] w w' := by
  have hd := h.ltd
  have hdm := h.ltm
  have c0 := h.c0
  have hq : ∀ x, x = (if okName s.data.toList then if D.F.has s.data.toList then 9 else if 400 ≤ D.F.length then 6 else 0 else 1) → ∀ w1 bd bn, DiskAt fp w1 d m D → w1.cell? ⟨bd, 0, none⟩ = some (.pointer (some ⟨d, 0, none⟩)) → w1.cell? ⟨bn, 0, none⟩ = some (.string s) → d < bd → d < bn → m < bd → m < bn →
     Calls Try.prog 49 #[.pointer (some ⟨d, 0, none⟩), .int .i64 x, .func (.func 70) #[] #[.pointer (some ⟨bd, 0, none⟩), .pointer (some ⟨bn, 0, none⟩)], .func (.func 55) #[] #[]] w1 fun e w' => e = .returned (.int .i64 (D.create s.data.toList).1) ∧ DiskAt fp w' d m (D.create s.data.toList).2 ∧ Turn [d, m] w1 w' := by
    intro x hx w1 bd bn h1 g1 g2 l1 l2 l3 l4
    unfold Dk.create
    rw [← hx]
    refine deed_spec d m D _ _ _ _ _ _ _ w1 h1 (ent Try.func70 (by kernel_rfl) rfl) (ent Try.func55 (by kernel_rfl) rfl) (fun h0 w2 l b h2 ht2 => ?_) (fun _ w2 l b h2 ht2 => nothing_s d m _ w2 h2)
    rw [h0] at hx
    have hx1 : okName s.data.toList = true := by cases h : okName s.data.toList <;> simp [h] at hx ⊢
    have hx2 : D.F.has s.data.toList = false := by cases h : D.F.has s.data.toList <;> simp [h, hx1] at hx ⊢
    have hx3 : D.F.length < 400 := by
      by_cases h : 400 ≤ D.F.length
      · simp [h, hx1, hx2] at hx
      · omega
    exact create1_c d m bd bn _ s w2 h2 hs (ht2.cell g1 (by simp; omega)) (ht2.cell g2 (by simp; omega)) hx2 hx3
  have hl400 := h.ok.len
  have hmap : ∀ w', Below w.heap.size w w' → ∃ es, w'.ownsMap Try.prog 9 anyE m D.F.length (.map es) ∧ Maps.size (DataW.map es) = D.F.length := by
    intro w' hB
    obtain ⟨es, hown, hreps⟩ := h.files
    exact ⟨es, (Turn.map (S := []) (.ofBelow hB) hown (by simp)), hreps.length⟩
  have hT0 : Below w.heap.size w ((w.alloc (.cells #[.pointer (some ⟨d, 0, none⟩)] 23)).alloc (.cells #[.string s] 9)) := ((Below.refl _ _).alloc (Nat.le_refl _) _).alloc (by simp) _
  generalize D.create s.data.toList = R at *
  generalize hob : okName s.data.toList = ob at *
  generalize hfb : D.F.has s.data.toList = fb at *
  generalize hll : D.F.length = ll at *
  have hnm := fun w => hob ▸ named_c s w hs
  have hth := fun w h => hfb ▸ there_c (fp := fp) d m D s w h hs
  replace hnm := Lib.hid hnm
  replace hth := Lib.hid hth
  replace hq := Lib.hid hq
  replace hT0 := Lib.hid hT0
  replace hmap := Lib.hid hmap
  clear hll hfb hob
  cases ob
  · have hqq := hq.out 1 rfl
    replace hqq := Lib.hid hqq
    go_enter Try.func38, Try.ntmps38
    go_wp2_with fail
    refine (hnm.out _).mono ?_
    rintro e w2 ⟨rfl, rfl⟩
    go_wp2_with fail
    refine (hqq.out _ _ _ (h.ext hT0.out) (by go_simp) (by go_simp) (by omega) (by omega) (by omega) (by omega)).mono ?_
    rintro e w4 ⟨rfl, h4, ht4⟩
    replace h4 := Lib.hid h4
    replace ht4 := Lib.hid ht4
    go_wp2
    go_ret
    exact ⟨rfl, h4.out, (Turn.ofBelow hT0.out).trans ht4.out⟩
  · have hth0 := hth.out _ (h.ext hT0.out)
    replace hth0 := Lib.hid hth0
    cases fb
    · by_cases hll : ll < 400
      all_goals
        have hqq := hq.out _ rfl
        rw [if_pos rfl, if_neg (by simp)] at hqq
        first | rw [if_neg (by omega)] at hqq | rw [if_pos (by omega)] at hqq
        replace hqq := Lib.hid hqq
        go_enter Try.func38, Try.ntmps38
        go_wp2_with fail
        refine (hnm.out _).mono ?_
        rintro e w2 ⟨rfl, rfl⟩
        go_wp2_with fail
        refine hth0.out.mono ?_
        rintro e w3 ⟨rfl, hB3⟩
        have hB3' := hT0.out.trans (hB3.mono (hT0.out.size))
        have g0 : w3.cell? ⟨w.heap.size, 0, none⟩ = some (.pointer (some ⟨d, 0, none⟩)) := bel_cell hB3 (by simp <;> omega) (by go_simp)
        have g1 : w3.cell? ⟨w.heap.size + 1, 0, none⟩ = some (.string s) := bel_cell hB3 (by simp <;> omega) (by go_simp)
        have c03 := bel_cell hB3' (cell_lt c0) c0
        obtain ⟨es, hown3, hsz⟩ := hmap.out _ hB3'
        have h3 := h.ext hB3'
        replace h3 := Lib.hid h3
        replace hB3' := Lib.hid hB3'
        go_wp2_with (at_len; refine wpList_len_own _ rfl _ 44 rfl 9 67 Try.underlying44 _ m _ _ rfl hown3 ?_; rw [hsz])
        refine (hqq.out _ _ _ h3.out (by go_simp) (by go_simp) (by omega) (by omega) (by omega) (by omega)).mono ?_
        rintro e w4 ⟨rfl, h4, ht4⟩
        replace h4 := Lib.hid h4
        replace ht4 := Lib.hid ht4
        go_wp2
        go_ret
        exact ⟨rfl, h4.out, (Turn.ofBelow hB3'.out).trans ht4.out⟩
    · have hqq := hq.out _ rfl
      rw [if_pos rfl, if_pos rfl] at hqq
      replace hqq := Lib.hid hqq
      go_enter Try.func38, Try.ntmps38
      go_wp2_with fail
      refine (hnm.out _).mono ?_
      rintro e w2 ⟨rfl, rfl⟩
      go_wp2_with fail
      refine hth0.out.mono ?_
      rintro e w3 ⟨rfl, hB3⟩
      have hB3' := hT0.out.trans (hB3.mono (hT0.out.size))
      have g0 : w3.cell? ⟨w.heap.size, 0, none⟩ = some (.pointer (some ⟨d, 0, none⟩)) := bel_cell hB3 (by simp <;> omega) (by go_simp)
      have g1 : w3.cell? ⟨w.heap.size + 1, 0, none⟩ = some (.string s) := bel_cell hB3 (by simp <;> omega) (by go_simp)
      have h3 := h.ext hB3'
      replace h3 := Lib.hid h3
      replace hB3' := Lib.hid hB3'
      go_wp2_with fail
      refine (hqq.out _ _ _ h3.out g0 g1 (by omega) (by omega) (by omega) (by omega)).mono ?_
      rintro e w4 ⟨rfl, h4, ht4⟩
      replace h4 := Lib.hid h4
      replace ht4 := Lib.hid ht4
      go_wp2
      go_ret
      exact ⟨rfl, h4.out, (Turn.ofBelow hB3'.out).trans ht4.out⟩
end Go.Proofs.Ytkmmaijkidkoiaa
