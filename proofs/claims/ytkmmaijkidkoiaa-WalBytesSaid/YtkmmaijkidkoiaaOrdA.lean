/- Keys as bytes: a number, a text are read. -/
import Derived.Test.YtkmmaijkidkoiaaCodE
import Derived.Test.YtkmmaijkidkoiaaOrd
namespace Go.Proofs.Ytkmmaijkidkoiaa
open Go Go.RowKit

theorem szB : (Try.prog.info? 5).map (·.size) = some 1 := by kernel_rfl
theorem or_u64 (n : Nat) (c : UInt8) (h : n < 72057594037927936) : bits BinOp.or IntKind.u64 (IntKind.u64.wrap ((n : Int) * 256)) (IntKind.u64.wrap (c.toNat : Int)) = ((n * 256 + c.toNat : Nat) : Int) := by
  have hc := c.toNat_lt
  have e1 : IntKind.u64.wrap ((n : Int) * 256) = ((n * 256 : Nat) : Int) := by simp [IntKind.wrap, IntKind.bits, IntKind.signed]; omega
  have e2 : IntKind.u64.wrap (c.toNat : Int) = (c.toNat : Int) := by simp [IntKind.wrap, IntKind.bits, IntKind.signed]; omega
  rw [e1, e2, u64_or_nat _ _ (by omega) (by omega), Nat.mul_comm]
  have := Nat.two_pow_add_eq_or_of_lt (i := 8) (b := c.toNat) (by omega) n
  rw [← this]
theorem xor_top (m : Nat) (h : m < 2 ^ 63) : m ^^^ 2 ^ 63 = m + 2 ^ 63 := by
  rw [Nat.add_comm]
  apply Nat.eq_of_testBit_eq
  intro j
  rw [Nat.testBit_xor]
  rcases Nat.lt_trichotomy j 63 with hj | hj | hj
  · rw [Nat.testBit_two_pow_add_gt hj, Nat.testBit_two_pow_of_ne (by omega)]
    simp
  · subst hj
    rw [Nat.testBit_two_pow_add_eq, Nat.testBit_two_pow_self]
    simp
  · have h1 : m < 2 ^ j := Nat.lt_trans h (Nat.pow_lt_pow_right (by omega) hj)
    have h2 : 2 ^ 63 + m < 2 ^ j := Nat.lt_of_lt_of_le (by omega) (Nat.pow_le_pow_right (n := 2) (by omega) (show 64 ≤ j from hj))
    rw [Nat.testBit_lt_two_pow h1, Nat.testBit_lt_two_pow h2, Nat.testBit_two_pow_of_ne (by omega)]
    rfl
theorem xor_top' (n : Nat) (h : n < 18446744073709551616) : n ^^^ 9223372036854775808 = if n < 9223372036854775808 then n + 9223372036854775808 else n - 9223372036854775808 := by
  split
  · rename_i hlt; exact xor_top n hlt
  · have := xor_top (n - 9223372036854775808) (by omega)
    rw [Nat.sub_add_cancel (by omega)] at this
    have h2 : n ^^^ 9223372036854775808 = ((n - 9223372036854775808) ^^^ 2 ^ 63) ^^^ 2 ^ 63 := by rw [this]
    rw [h2, Nat.xor_assoc, Nat.xor_self, Nat.xor_zero]
theorem xor_u64 (n : Nat) (h : n < 18446744073709551616) : wrap64 (bits BinOp.xor IntKind.u64 (n : Int) 9223372036854775808) = (n : Int) - 9223372036854775808 := by
  have e := u64_xor_nat n 9223372036854775808 h (by omega)
  rw [show (9223372036854775808 : Int) = ((9223372036854775808 : Nat) : Int) from rfl, e, wrap64]
  rw [xor_top' n h]
  split <;> omega
theorem cutB {w : World} {A : Option Addr} {n c : Nat} {bs : List UInt8} (h : Rd w A (bs.map bv)) (hn : bs.length = n) (hc : n ≤ c) (lo : Nat) : Rd w (cutA A c lo 1) ((bs.drop lo).map bv) := by
  have := h.cut (lo := lo) (size := 1) (n := n) (c := c) (by simpa using hn) hc
  simpa [List.map_drop] using this
/-- What comes of a part that is read at the beginning of bytes. -/
def PartPost (A : Option Addr) (bs : List UInt8) (isT : Bool) (r : Except Int (Prt × List UInt8)) (w : World) (e : Ending) (w' : World) : Prop :=
  Below w.heap.size w w' ∧
     (match r with
      | .error x => e = .returned (.tuple #[.agg #[.bool false, .int .i64 0, .string ⟨#[]⟩], .slice none 0 0, .int .i64 x])
      | .ok (p, q) => ∃ A' n' c', e = .returned (.tuple #[.agg #[.bool isT, .int .i64 p.num, .string ⟨p.txt.toArray⟩], .slice A' n' c', .int .i64 0]) ∧ n' = q.length ∧ n' ≤ c' ∧ ∀ W, Rd W A (bs.map bv) → Rd W A' (q.map bv))

set_option maxRecDepth 100000 in
set_option maxHeartbeats 400000 in
theorem word_c (A : Option Addr) (n c : Nat) (bs : List UInt8) (w : World) (hb : Rd w A (bs.map bv)) (hn : bs.length = n) (hc : n ≤ c) (hl : n ≤ 1099511627776) :
   Calls Try.prog 93 #[.slice A n c] w (PartPost A bs false ((rdWord bs).map fun p => (⟨false, p.1, []⟩, p.2)) w) := by
  replace hn := Lib.hid hn
  have hs := fun (w : World) => run_sl_lo (P := Try.prog) w 29 5 1 Try.underlying29 szB A n c 8 8 rfl
  go_enter Try.func93, Try.ntmps93
  by_cases h8 : n < 8
  · go_wp2
    refine bodyPost_ret (v := .tuple #[.agg #[.bool false, .int .i64 0, .string ⟨#[]⟩], .slice none 0 0, .int .i64 3]) (by simp [results, Try.results93, go_sem]) rfl ?_
    refine ⟨((Below.refl _ _).alloc (Nat.le_refl _) _), ?_⟩
    rw [rdWord, if_pos (by rw [hn.out]; exact h8)]
    exact rfl
  · have hs' := fun w => hs w (by omega)
    clear hs
    go_wp2
    go_loop [5, 15] (fun n i => ∃ k : Nat, k ≤ 8 ∧ i = .int .i64 (k : Int) ∧ n = .int .u64 (be (bs.take k) : Int)) (fun _ i => 8 - (intOf i).toNat)
    case atStart => exact ⟨0, by omega, rfl, rfl⟩
    case round =>
      obtain ⟨k, hk, rfl, rfl⟩ := hrel
      by_cases hlt : k < 8
      · obtain ⟨b, o, rfl, hcell⟩ := hb.byte (k := k) (by rw [hn.out]; omega)
        have hcell' : (w.alloc (Obj.cells #[Value.bool false, Value.int IntKind.i64 0, Value.string { data := #[] }] 108)).cell? ⟨b, o + k, none⟩ = some (.int .u8 ((bs.getD k 0).toNat : Int)) := (World.cell?_alloc_lt _ _ _ (cell_lt hcell)).trans hcell
        clear hcell
        have HX : bs.take (k + 1) = bs.take k ++ [bs.getD k 0] := by rw [List.take_succ_eq_append_getElem (by rw [hn.out]; omega)]; simp [List.getD_eq_getElem?_getD, List.getElem?_eq_getElem (show k < bs.length by rw [hn.out]; omega)]
        replace HX := Lib.hid HX
        generalize bs.getD k 0 = x at *
        go_wp2
        go_round
        case rel => 
          have hlt := be_lt (bs.take k)
          have hlk : (bs.take k).length ≤ 7 := by rw [List.length_take]; omega
          have h56 : be (bs.take k) < 72057594037927936 := Nat.lt_of_lt_of_le hlt (Nat.le_trans (Nat.pow_le_pow_right (by omega) hlk) (by decide))
          refine ⟨k + 1, by omega, by go_num, ?_⟩
          rw [or_u64 _ _ h56, HX.out, be_snoc]
        case measure => simp [intOf]; omega
      · go_wp2
        have e : k = 8 := by omega
        subst e
        go_region
        go_wp2
        have hlt := be_lt (bs.take 8)
        have hlk : (bs.take 8).length = 8 := by rw [List.length_take, hn.out]; omega
        rw [hlk] at hlt
        have hx := xor_u64 _ hlt
        refine bodyPost_ret (v := .tuple #[.agg #[.bool false, .int .i64 ((be (bs.take 8) : Int) - 9223372036854775808), .string ⟨#[]⟩], .slice (cutA A c 8 1) (n - 8) (c - 8), .int .i64 0]) (by simp [results, Try.results93, go_sem, hx]) rfl ?_
        refine ⟨((Below.refl _ _).alloc (Nat.le_refl _) _).drew, ?_⟩
        rw [rdWord, if_neg (by rw [hn.out]; omega)]
        refine ⟨_, _, _, rfl, by rw [List.length_drop, hn.out], by omega, ?_⟩
        exact fun W hW => cutB hW hn.out hc 8

/-- What was read already, ahead of what is read. -/
def ahead (acc : List UInt8) (r : Except Int (List UInt8 × List UInt8)) : Except Int (List UInt8 × List UInt8) := r.map fun p => (acc ++ p.1, p.2)
theorem ahead_nil (r : Except Int (List UInt8 × List UInt8)) : ahead [] r = r := by cases r <;> simp [ahead, Except.map]
theorem ahead_ne {acc r : List UInt8} {c : UInt8} (h : c ≠ 0) : ahead acc (rdText (c :: r)) = ahead (acc ++ [c]) (rdText r) := by
  rw [rdText_ne h]
  cases rdText r <;> simp [ahead, Except.map]
theorem ahead_255 {acc r : List UInt8} : ahead acc (rdText (0 :: 255 :: r)) = ahead (acc ++ [0]) (rdText r) := by
  rw [rdText_255]
  cases rdText r <;> simp [ahead, Except.map]
/-- The words' frame at the label. -/
def WordsAt (A : Option Addr) (n c : Nat) (bs : List UInt8) (w : World) (a : Act) (w' : World) : Prop :=
  ∃ (k : Nat) (A' : Option Addr) (N c' : Nat) (acc : List UInt8) (u7 u8 u9 u10 u11 u12 u13 u14 u15 u16 u17 u18 u19 u20 u21 u22 u23 u24 u25 u26 u27 u28 u29 u30 u31 u32 u33 u34 u35 u36 u37 u38 u39 u40 u41 u42 u43 u44 u45 u46 u47 u48 u49 u50 u51 u52 u53 : Value), k ≤ n ∧ rdText bs = ahead acc (rdText (bs.drop k)) ∧ acc.length = N ∧ N ≤ k ∧
    w'.ownsRow (w.heap.size + 1) 5 1 (.slice A' N c') N (acc.map bv) ∧ Below (w.heap.size + 1) (w.alloc (.cells #[.bool false, .int .i64 0, .string ⟨#[]⟩] 108)) w' ∧
    a = { tmps := #[.slice A n c, undef, .pointer (some ⟨w.heap.size, 0, none⟩), .slice none 0 0, .int .i64 0, .slice A' N c', .int .i64 (k : Int), u7, u8, u9, u10, u11, u12, u13, u14, u15, u16, u17, u18, u19, u20, u21, u22, u23, u24, u25, u26, u27, u28, u29, u30, u31, u32, u33, u34, u35, u36, u37, u38, u39, u40, u41, u42, u43, u44, u45, u46, u47, u48, u49, u50, u51, u52, u53], defers := [] }

set_option maxRecDepth 100000 in
set_option maxHeartbeats 1000000 in
theorem words_c (A : Option Addr) (n c : Nat) (bs : List UInt8) (w : World) (hb : Rd w A (bs.map bv)) (hn : bs.length = n) (hc : n ≤ c) (hl : n ≤ 1099511627776) :
   Calls Try.prog 94 #[.slice A n c] w (PartPost A bs true ((rdText bs).map fun p => (⟨true, 0, p.1⟩, p.2)) w) := by
  replace hn := Lib.hid hn
  go_enter Try.func94, Try.ntmps94
  go_wp2_with fail
  refine (fun (pass : ∀ a w', WordsAt A n c bs w a w' → Code.wp Try.prog _ (Exit.jump 0 (fun a' w'' => WordsAt A n c bs w a' w'' ∧ n - (intOf (a'.tmps.getD 6 undef)).toNat < n - (intOf (a.tmps.getD 6 undef)).toNat) _) a w') => wp_scope_jumps 0 (WordsAt A n c bs w) (fun a _ => n - (intOf (a.tmps.getD 6 undef)).toNat) rfl ?first (fun a w' h => wp_seq (wp_skip (pass a w' h)))) ?pass
  case first =>
    go_wp2_with fail
    go_step3
    simp only [Exit.then]
    rename_i K hK
    refine hK _ _ (wp_mono (pass _ _ ⟨0, none, 0, 0, [], _, _, _, _, _, _, _, _, _, _, _, _, _, _, _, _, _, _, _, _, _, _, _, _, _, _, _, _, _, _, _, _, _, _, _, _, _, _, _, _, _, _, _, _, _, _, _, by omega, (ahead_nil _).symm, rfl, by omega, World.ownsRow_nil _ _ _ _, Below.refl _ _, rfl⟩) ?_)
    intro e a w he
    cases e <;> first | exact he | exact ⟨he.1, he.2.1⟩
  case pass =>
    rintro a wr ⟨k, A', N, c', acc, u7, u8, u9, u10, u11, u12, u13, u14, u15, u16, u17, u18, u19, u20, u21, u22, u23, u24, u25, u26, u27, u28, u29, u30, u31, u32, u33, u34, u35, u36, u37, u38, u39, u40, u41, u42, u43, u44, u45, u46, u47, u48, u49, u50, u51, u52, u53, hk, hrd, hN, hNk, hown, hB, rfl⟩
    replace hrd := Lib.hid hrd
    replace hN := Lib.hid hN
    have q0 := bel_cell hB (show w.heap.size < w.heap.size + 1 by omega) (o := 0) (u := .bool false) (by go_simp)
    have q1 := bel_cell hB (show w.heap.size < w.heap.size + 1 by omega) (o := 1) (u := .int .i64 0) (by go_simp)
    have q2 := bel_cell hB (show w.heap.size < w.heap.size + 1 by omega) (o := 2) (u := .string ⟨#[]⟩) (by go_simp)
    have f0 : wr.frozen? ⟨w.heap.size, 0, none⟩ = false := (hB.frozen (p := ⟨w.heap.size, 0, none⟩) (by simp)).trans (by go_simp)
    have f1 : wr.frozen? ⟨w.heap.size, 1, none⟩ = false := (hB.frozen (p := ⟨w.heap.size, 1, none⟩) (by simp)).trans (by go_simp)
    have f2 : wr.frozen? ⟨w.heap.size, 2, none⟩ = false := (hB.frozen (p := ⟨w.heap.size, 2, none⟩) (by simp)).trans (by go_simp)
    have hBw : Below w.heap.size w wr := ((Below.refl _ _).alloc (Nat.le_refl _) _).trans (hB.mono (by omega))
    have hsz : w.heap.size + 1 ≤ wr.heap.size := by have := hB.size; simpa using this
    by_cases hkn : k = n
    · subst hkn
      have ht : ((k : Int) == (k : Int)) = true := by simp
      go_wp2
      simp only [Exit.jump]
      refine bodyPost_ret (v := .tuple #[.agg #[.bool false, .int .i64 0, .string ⟨#[]⟩], .slice none 0 0, .int .i64 3]) (by simp [results, Try.results94, go_sem, q0, q1, q2]) rfl ?_
      refine ⟨((hBw.setCell (p := ⟨w.heap.size, 0, none⟩) (Nat.le_refl _) _).setCell (p := ⟨w.heap.size, 1, none⟩) (Nat.le_refl _) _).setCell (p := ⟨w.heap.size, 2, none⟩) (Nat.le_refl _) _, ?_⟩
      rw [hrd.out, List.drop_of_length_le (by rw [hn.out]; omega), rdText_nil]
      exact rfl
    · have hlt : k < bs.length := by rw [hn.out]; omega
      obtain ⟨b, o, rfl, hcell⟩ := (hb.ext hBw).byte hlt
      have hdk : bs.drop k = bs.getD k 0 :: bs.drop (k + 1) := by rw [List.drop_eq_getElem_cons hlt]; simp [List.getD_eq_getElem?_getD, hlt]
      rw [hdk] at hrd
      clear hdk
      generalize hx : bs.getD k 0 = x at *
      clear hx
      have ht : ((k : Int) == (n : Int)) = false := by simp; omega
      by_cases hx0 : x = 0
      · subst hx0
        have hx1 : ((((0 : UInt8).toNat : Nat) : Int) != 0) = false := by simp
        by_cases hk1 : k + 1 = n
        · have ht1 : ((k : Int) + 1 == (n : Int)) = true := by simp; omega
          go_wp2
          simp only [Exit.jump]
          refine bodyPost_ret (v := .tuple #[.agg #[.bool false, .int .i64 0, .string ⟨#[]⟩], .slice none 0 0, .int .i64 3]) (by simp [results, Try.results94, go_sem, q0, q1, q2]) rfl ?_
          refine ⟨((hBw.setCell (p := ⟨w.heap.size, 0, none⟩) (Nat.le_refl _) _).setCell (p := ⟨w.heap.size, 1, none⟩) (Nat.le_refl _) _).setCell (p := ⟨w.heap.size, 2, none⟩) (Nat.le_refl _) _, ?_⟩
          rw [hrd.out, List.drop_of_length_le (by rw [hn.out]; omega), rdText_zero]
          exact rfl
        · have ht1 : ((k : Int) + 1 == (n : Int)) = false := by simp; omega
          have hlt1 : k + 1 < bs.length := by rw [hn.out]; omega
          obtain ⟨b', o', hbo, hcell1⟩ := (hb.ext hBw).byte hlt1
          injection hbo with hbo
          injection hbo with hb1 hb2
          subst hb1 hb2
          have hdk : bs.drop (k + 1) = bs.getD (k + 1) 0 :: bs.drop (k + 2) := by rw [List.drop_eq_getElem_cons hlt1]; simp [List.getD_eq_getElem?_getD, hlt1]
          rw [hdk] at hrd
          clear hdk
          generalize hx : bs.getD (k + 1) 0 = y at *
          clear hx
          by_cases hy : y = 255
          · subst hy
            have ht2 : ((((255 : UInt8).toNat : Nat) : Int) == 255) = true := by simp
            go_wp2_with (at_builtin; refine wl_append rfl _ _ 29 rfl _ _ 1 1 siB (w.heap.size + 1) wr ((Below.refl _ _).alloc hsz _) hsz A' N c' _ rfl (hown.alloc _) (some ⟨wr.heap.size, 0, none⟩) 1 1 [bv 0] rfl rfl (Rd.new1 wr _ _ _ rfl) (bvs_one [_]) (N + 1) ((acc ++ [0]).map bv) rfl (by simp) (by omega) (by omega) ?_; intro A3 c3 w3 hown3 hB3 hg3 hl3)
            go_step3
            refine ⟨rfl, ⟨k + 2, A3, N + 1, c3, acc ++ [0], _, _, _, _, _, _, _, _, _, _, _, _, _, _, _, _, _, _, _, _, _, _, _, _, _, _, _, _, _, _, _, _, _, _, _, _, _, _, _, _, _, _, _, _, _, _, _, by omega, by rw [hrd.out, ahead_255], by simp [hN.out], by omega, hown3, hB.trans (hB3.mono (by omega)), rfl⟩, ?_⟩
            simp [intOf]
            omega
          · have ht2 : ((y.toNat : Int) == 255) = false := beq_eq_false_iff_ne.2 (fun e => hy (UInt8.toNat_inj.1 (by show y.toNat = 255; omega)))
            by_cases hy1 : y = 1
            · subst hy1
              have ht3 : ((((1 : UInt8).toNat : Nat) : Int) == 1) = true := by simp
              have hcv := conv_str (P := Try.prog) wr.drew 29 9 5 Try.underlying29 Try.underlying5 Try.underlying9 A' N c' acc (Rd.of_own hown).drew hN.out
              have hs := fun (w : World) => run_sl_lo (P := Try.prog) w 29 5 1 Try.underlying29 szB (some ⟨b, o, none⟩) n c (k + 2) ((k : Int) + 2) (by omega) (by omega)
              have hw2 : IntKind.i64.wrap ((k : Int) + 2) = (k : Int) + 2 := by rw [IntKind.wrap_i64]; omega
              go_wp2
              go_region
              go_wp2
              simp only [Exit.jump]
              refine bodyPost_ret (v := .tuple #[.agg #[.bool true, .int .i64 0, .string ⟨acc.toArray⟩], .slice (cutA (some ⟨b, o, none⟩) c (k + 2) 1) (n - (k + 2)) (c - (k + 2)), .int .i64 0]) (by simp [results, Try.results94, go_sem, q0, q1, q2]) rfl ?_
              have hBe : ∀ u0 u1 u2 : Value, Below w.heap.size w (((wr.setCell ⟨w.heap.size, 0, none⟩ u0).setCell ⟨w.heap.size, 1, none⟩ u1).setCell ⟨w.heap.size, 2, none⟩ u2).drew := fun u0 u1 u2 => (((hBw.setCell (p := ⟨w.heap.size, 0, none⟩) (Nat.le_refl _) _).setCell (p := ⟨w.heap.size, 1, none⟩) (Nat.le_refl _) _).setCell (p := ⟨w.heap.size, 2, none⟩) (Nat.le_refl _) _).drew
              refine ⟨hBe _ _ _, ?_⟩
              rw [hrd.out, rdText_1]
              exact ⟨cutA (some ⟨b, o, none⟩) c (k + 2) 1, n - (k + 2), c - (k + 2), by simp [ahead], by rw [List.length_drop, hn.out], by omega, fun W hW => cutB hW hn.out hc (k + 2)⟩
            · have ht3 : ((y.toNat : Int) == 1) = false := beq_eq_false_iff_ne.2 (fun e => hy1 (UInt8.toNat_inj.1 (by show y.toNat = 1; omega)))
              go_wp2
              simp only [Exit.jump]
              refine bodyPost_ret (v := .tuple #[.agg #[.bool false, .int .i64 0, .string ⟨#[]⟩], .slice none 0 0, .int .i64 2]) (by simp [results, Try.results94, go_sem, q0, q1, q2]) rfl ?_
              refine ⟨((hBw.setCell (p := ⟨w.heap.size, 0, none⟩) (Nat.le_refl _) _).setCell (p := ⟨w.heap.size, 1, none⟩) (Nat.le_refl _) _).setCell (p := ⟨w.heap.size, 2, none⟩) (Nat.le_refl _) _, ?_⟩
              rw [hrd.out, rdText_other hy hy1]
              exact rfl
      · have hx1 : ((x.toNat : Int) != 0) = true := by simp; intro e; exact hx0 (UInt8.toNat_inj.1 (by simpa using e))
        go_wp2_with (at_builtin; refine wl_append rfl _ _ 29 rfl _ _ 1 1 siB (w.heap.size + 1) wr ((Below.refl _ _).alloc hsz _) hsz A' N c' _ rfl (hown.alloc _) (some ⟨wr.heap.size, 0, none⟩) 1 1 [bv x] rfl rfl (Rd.new wr [_] _) (bvs_one [_]) (N + 1) ((acc ++ [x]).map bv) rfl (by simp) (by omega) (by omega) ?_; intro A3 c3 w3 hown3 hB3 hg3 hl3)
        go_step3
        refine ⟨rfl, ⟨k + 1, A3, N + 1, c3, acc ++ [x], _, _, _, _, _, _, _, _, _, _, _, _, _, _, _, _, _, _, _, _, _, _, _, _, _, _, _, _, _, _, _, _, _, _, _, _, _, _, _, _, _, _, _, _, _, _, _, by omega, by rw [hrd.out, ahead_ne hx0], by simp [hN.out], by omega, hown3, hB.trans (hB3.mono (by omega)), rfl⟩, ?_⟩
        simp [intOf]
        omega
end Go.Proofs.Ytkmmaijkidkoiaa
