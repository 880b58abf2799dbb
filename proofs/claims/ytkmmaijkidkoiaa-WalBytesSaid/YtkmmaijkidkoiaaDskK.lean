/- The disk: Rename, Read. -/
import Derived.Test.YtkmmaijkidkoiaaDskJ
namespace Go.Proofs.Ytkmmaijkidkoiaa
open Go Go.RowKit
variable {fp : Nat → Prop}

set_option maxRecDepth 100000 in
set_option maxHeartbeats 1000000 in
theorem rename_c (d m : Nat) (D : Dk) (s t : ByteArray) (w : World) (h : DiskAt fp w d m D) (hs : s.size ≤ 1099511627776) (hst : t.size ≤ 1099511627776) :
   Calls Try.prog 42 #[.pointer (some ⟨d, 0, none⟩), .string s, .string t] w fun e w' => e = .returned (.int .i64 (D.rename s.data.toList t.data.toList).1) ∧ DiskAt fp w' d m (D.rename s.data.toList t.data.toList).2 ∧ Turn [d, m] w w' := by
  have hd := h.ltd
  have hdm := h.ltm
  have hT0 : Below w.heap.size w (((w.alloc (.cells #[.pointer (some ⟨d, 0, none⟩)] 23)).alloc (.cells #[.string s] 9)).alloc (.cells #[.string t] 9)) := (((Below.refl _ _).alloc (Nat.le_refl _) _).alloc (by simp) _).alloc (by simp; omega) _
  have hq : ∀ x, x = (if D.F.has s.data.toList then if okName t.data.toList then 0 else 1 else 8) → ∀ w1 bd bn bb, DiskAt fp w1 d m D → w1.cell? ⟨bd, 0, none⟩ = some (.pointer (some ⟨d, 0, none⟩)) → w1.cell? ⟨bn, 0, none⟩ = some (.string s) → w1.cell? ⟨bb, 0, none⟩ = some (.string t) → d < bd → d < bn → m < bd → m < bn → d < bb → m < bb →
     Calls Try.prog 49 #[.pointer (some ⟨d, 0, none⟩), .int .i64 x, .func (.func 71) #[] #[.pointer (some ⟨bd, 0, none⟩), .pointer (some ⟨bn, 0, none⟩), .pointer (some ⟨bb, 0, none⟩)], .func (.func 55) #[] #[]] w1 fun e w' => e = .returned (.int .i64 (D.rename s.data.toList t.data.toList).1) ∧ DiskAt fp w' d m (D.rename s.data.toList t.data.toList).2 ∧ Turn [d, m] w1 w' := by
    intro x hx w1 bd bn bb h1 g1 g2 g3 l1 l2 l3 l4 l5 l6
    unfold Dk.rename
    rw [← hx]
    refine deed_spec d m D _ _ _ _ _ _ _ w1 h1 (ent Try.func71 (by kernel_rfl) rfl) (ent Try.func55 (by kernel_rfl) rfl) (fun h0 w2 l b h2 ht2 => ?_) (fun _ w2 l b h2 ht2 => nothing_s d m _ w2 h2)
    rw [h0] at hx
    have hx2 : D.F.has s.data.toList = true := by cases h : D.F.has s.data.toList <;> simp [h] at hx ⊢
    exact rename1_c d m bd bn bb _ s t w2 h2 hs hst (ht2.cell g1 (by simp; omega)) (ht2.cell g2 (by simp; omega)) (ht2.cell g3 (by simp; omega)) (by omega) (by omega) (by omega) hx2
  have hth := fun w h => there_c (fp := fp) d m D s w h hs
  have hnm := fun w => named_c t w hst
  generalize D.rename s.data.toList t.data.toList = R at *
  generalize hfb : D.F.has s.data.toList = fb at *
  generalize hob : okName t.data.toList = ob at *
  replace hth := Lib.hid hth
  replace hnm := Lib.hid hnm
  replace hq := Lib.hid hq
  replace hT0 := Lib.hid hT0
  clear hob hfb
  have hth0 := hth.out _ (h.ext hT0.out)
  cases fb
  all_goals
    cases ob
    all_goals
      replace hth0 := Lib.hid hth0
      have hqc := hq.out _ rfl
      simp only [if_true, Bool.false_eq_true, if_false] at hqc
      replace hqc := Lib.hid hqc
      go_enter Try.func42, Try.ntmps42
      go_wp2_with fail
      refine hth0.out.mono ?_
      rintro e w3 ⟨rfl, hB3⟩
      have hB3' := hT0.out.trans (hB3.mono (hT0.out.size))
      have g0 : w3.cell? ⟨w.heap.size, 0, none⟩ = some (.pointer (some ⟨d, 0, none⟩)) := bel_cell hB3 (by simp <;> omega) (by go_simp)
      have g1 : w3.cell? ⟨w.heap.size + 1, 0, none⟩ = some (.string s) := bel_cell hB3 (by simp <;> omega) (by go_simp)
      have g2 : w3.cell? ⟨w.heap.size + 1 + 1, 0, none⟩ = some (.string t) := bel_cell hB3 (by simp <;> omega) (by go_simp)
      have h3 := h.ext hB3'
      replace h3 := Lib.hid h3
      replace hB3' := Lib.hid hB3'
      go_wp2_with (go_at_call 69; refine (hnm.out _).mono ?_; rintro e w2 ⟨rfl, rfl⟩)
      refine (hqc.out _ _ _ _ h3.out g0 g1 g2 (by omega) (by omega) (by omega) (by omega) (by omega) (by omega)).mono ?_
      rintro e w4 ⟨rfl, h4, ht4⟩
      replace h4 := Lib.hid h4
      replace ht4 := Lib.hid ht4
      go_wp2
      go_ret
      exact ⟨rfl, h4.out, ((Turn.ofBelow hB3'.out)).trans ht4.out⟩

/-- A cut between two places. -/
theorem wl_slice {P : Program} {ops : Array Oper} {rest : List Oper} {o : Oper} {a : Act} {Q : Exit → Act → World → Prop} {w : World} (hgd : o.guard = none) (s lo hi : Operand) (t : TypeId) (ho : o.op = .slice t s (some lo) (some hi) none)
    (e : TypeId) (size : Nat) (ht : P.underlying t = some (.slice e)) (hs : (P.info? e).map (·.size) = some size) (A : Option Addr) (n c l r : Nat) (hsl : a.eval s = .slice A n c) (x y : Int) (hx : a.eval lo = .int .i64 x) (hy : a.eval hi = .int .i64 y) (hxl : x = (l : Int)) (hyr : y = (r : Int)) (hlr : l ≤ r) (hrc : r ≤ c)
    (hK : wpList P ops Q rest (a.put o.dst (.slice (cutA A c l size) (r - l) (c - l))) w) : wpList P ops Q (o :: rest) a w := by
  refine wpList_plain hgd fun K' hK' => ?_
  unfold Oper.wp
  simp [execOp, ho, hsl, hx, hy, Instr.sliceAt, run_underlying ht, run_sl_lohi w t e size ht hs A n c l r x y hxl hyr hlr hrc, Result.andThen]
  exact hK' _ _ hK

/-- What Read tells: an error, and bytes. -/
def Dk.read (D : Dk) (s : List UInt8) (at_ n : Int) : Int × List UInt8 :=
  if D.down then (7, []) else if D.F.has s then if at_ < 0 ∨ n < 0 then (1, []) else (0, ((D.F.get s).bs.drop at_.toNat).take n.toNat) else (8, [])
def DReadPost (r : Int × List UInt8) (w : World) (e : Ending) (w' : World) : Prop :=
  ∃ A n c, e = .returned (.tuple #[.slice A n c, .int .i64 r.1]) ∧ n = r.2.length ∧ w'.ownsRow w.heap.size 5 1 (.slice A n c) n (r.2.map bv) ∧ Below w.heap.size w w'

set_option maxRecDepth 100000 in
set_option maxHeartbeats 1000000 in
theorem read_c (d m : Nat) (D : Dk) (s : ByteArray) (at_ n : Int) (w : World) (h : DiskAt fp w d m D) (hs : s.size ≤ 1099511627776) (ha : at_ ≤ 1099511627776) (hn : n ≤ 1099511627776) :
   Calls Try.prog 11 #[.pointer (some ⟨d, 0, none⟩), .string s, .int .i64 at_, .int .i64 n] w (DReadPost (D.read s.data.toList at_ n) w) := by
  have c3 := h.c3
  have c0 := h.c0
  have hth := there_c d m D s w h hs
  obtain ⟨es, v, hown, hat, _, A, k, c, rfl, hrest⟩ := h.look s.data.toList
  have hu := h.ok.used
  have hgl : (D.F.get s.data.toList).bs.length ≤ D.F.used := Files.get_len
  have hres : D.read s.data.toList at_ n = (if D.down then (7, []) else if D.F.has s.data.toList then if at_ < 0 ∨ n < 0 then (1, []) else (0, ((D.F.get s.data.toList).bs.drop at_.toNat).take n.toNat) else (8, [])) := rfl
  generalize D.read s.data.toList at_ n = R at *
  generalize D.down = dn at *
  generalize D.F.has s.data.toList = fb at *
  generalize (D.F.get s.data.toList).bs = bs at *
  have hnil : ∀ (r : Int) w', R = (r, []) → Below w.heap.size w w' → DReadPost R w (.returned (.tuple #[.slice none 0 0, .int .i64 r])) w' := by
    rintro r w' rfl hB
    exact ⟨none, 0, 0, rfl, rfl, World.ownsRow_nil _ _ _ _, hB⟩
  replace hnil := Lib.hid hnil
  replace hth := Lib.hid hth
  replace hown := Lib.hid hown
  replace hat := Lib.hid hat
  replace hrest := Lib.hid hrest
  cases dn
  · cases fb
    · replace hres := Lib.hid hres
      go_enter Try.func11, Try.ntmps11
      go_wp2_with fail
      refine hth.out.mono ?_
      rintro e w3 ⟨rfl, hB3⟩
      have g3 := bel_cell hB3 (cell_lt c3) c3
      go_wp2
      go_ret2
      exact hnil.out 8 _ hres.out hB3
    · by_cases hneg : at_ < 0 ∨ n < 0
      · rw [if_neg (by simp), if_pos rfl, if_pos hneg] at hres
        replace hres := Lib.hid hres
        by_cases h1 : at_ < 0
        · clear hneg
          go_enter Try.func11, Try.ntmps11
          go_wp2_with fail
          refine hth.out.mono ?_
          rintro e w3 ⟨rfl, hB3⟩
          have g3 := bel_cell hB3 (cell_lt c3) c3
          go_wp2
          go_ret2
          exact hnil.out 1 _ hres.out hB3
        · have h2 : n < 0 := by omega
          clear hneg
          go_enter Try.func11, Try.ntmps11
          go_wp2_with fail
          refine hth.out.mono ?_
          rintro e w3 ⟨rfl, hB3⟩
          have g3 := bel_cell hB3 (cell_lt c3) c3
          go_wp2
          go_ret2
          exact hnil.out 1 _ hres.out hB3
      · rw [if_neg (by simp), if_pos rfl, if_neg hneg] at hres
        have h1 : 0 ≤ at_ := by omega
        have h2 : 0 ≤ n := by omega
        have hln : bs.length = k := hrest.out.1
        obtain ⟨ka, hka, hka2⟩ : ∃ ka : Nat, (ka : Int) = min at_ k ∧ ka ≤ k := ⟨(min at_ (k : Int)).toNat, by omega, by omega⟩
        obtain ⟨kn, hkn, hkn2⟩ : ∃ kn : Nat, (kn : Int) = min n ((k : Int) - ka) ∧ ka + kn ≤ k := ⟨(min n ((k : Int) - ka)).toNat, by omega, by omega⟩
        have hcut : (bs.drop at_.toNat).take n.toNat = (bs.drop ka).take kn := by
          have e1 : bs.drop at_.toNat = bs.drop ka := by
            by_cases h : at_ ≤ k
            · rw [show at_.toNat = ka by omega]
            · rw [List.drop_of_length_le (by omega), List.drop_of_length_le (by omega)]
          rw [e1]
          by_cases h : n ≤ (k : Int) - ka
          · rw [show n.toNat = kn by omega]
          · rw [List.take_of_length_le (by simp; omega), List.take_of_length_le (by simp; omega)]
        rw [hcut] at hres
        replace hres := Lib.hid hres
        clear hcut hneg
        have hk : k ≤ 16777216 := by omega
        replace hln := Lib.hid hln
        replace hka := Lib.hid hka
        replace hkn := Lib.hid hkn
        go_enter Try.func11, Try.ntmps11
        go_wp2_with fail
        refine hth.out.mono ?_
        rintro e w3 ⟨rfl, hB3⟩
        have g3 := bel_cell hB3 (cell_lt c3) c3
        have g0 := bel_cell hB3 (cell_lt c0) c0
        have hlk := run_look1 w3 44 9 67 strK Try.underlying44 (zero_file _) m _ _ (Turn.map (S := []) (.ofBelow hB3) hown.out (by simp)) (.string s) _ (skey s (by omega)) _ hat.out
        have hf0 := fun w => run_field0 w A k c ((D.F.get s.data.toList).safe : Int)
        go_wp2_with (refine wl_slice rfl _ _ _ 29 rfl 5 1 Try.underlying29 (by kernel_rfl) A k c ka (ka + kn) rfl _ _ rfl rfl (by have := hka.out; have := hkn.out; omega) (by have := hka.out; have := hkn.out; omega) (by omega) (by have := hrest.out.2.1; omega) ?_)
        all_goals
          refine (clone_c _ _ _ ((bs.drop ka).take kn) w3 (by have hr := (hrest.out.2.2.1.ext hB3).cut (n := k) (c := c) (lo := ka) (size := 1) (by simpa using hln.out) hrest.out.2.1; rw [Nat.mul_one, ← List.map_drop] at hr; rw [List.map_take]; exact hr.take kn) (by simp [hln.out]; omega) (by omega)).mono ?_
          rintro e w4 ⟨A4, c4, rfl, hown4, hB4⟩
          replace hown4 := Lib.hid hown4
          go_wp2
          go_ret2
          rw [hres.out]
          have hlk2 : ((bs.drop ka).take kn).length = kn := by simp [hln.out]; omega
          exact ⟨A4, kn, c4, rfl, hlk2.symm, own_base hown4.out hB3.size, hB3.trans (hB4.mono hB3.size)⟩
  · replace hres := Lib.hid hres
    go_enter Try.func11, Try.ntmps11
    go_wp2_with fail
    refine hth.out.mono ?_
    rintro e w3 ⟨rfl, hB3⟩
    have g3 := bel_cell hB3 (cell_lt c3) c3
    go_wp2
    all_goals
      go_ret2
      exact hnil.out 7 _ hres.out hB3
end Go.Proofs.Ytkmmaijkidkoiaa
