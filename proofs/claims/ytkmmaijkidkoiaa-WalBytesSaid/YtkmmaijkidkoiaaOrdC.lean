/- Keys as bytes: a tuple is written; a table's key; a key is split. -/
import Derived.Test.YtkmmaijkidkoiaaOrdB
namespace Go.Proofs.Ytkmmaijkidkoiaa
open Go Go.RowKit

theorem xor_num (num : Int) (h1 : -9223372036854775808 ≤ num) (h2 : num ≤ 9223372036854775807) : ∃ M : Nat, (bits BinOp.xor IntKind.u64 (IntKind.u64.wrap num) 9223372036854775808 = (M : Int) ∧ M = (num + 9223372036854775808).toNat) ∧ M < 18446744073709551616 := by
  refine ⟨(num + 9223372036854775808).toNat, ⟨?_, rfl⟩, by omega⟩
  have hw : IntKind.u64.wrap num = (((if 0 ≤ num then num else num + 18446744073709551616).toNat : Nat) : Int) := by
    have e : IntKind.u64.wrap num = num % 18446744073709551616 := by simp [IntKind.wrap, IntKind.bits, IntKind.signed]
    rw [e]
    split <;> omega
  have ha : (if 0 ≤ num then num else num + 18446744073709551616).toNat < 18446744073709551616 := by split <;> omega
  rw [hw, show (9223372036854775808 : Int) = ((9223372036854775808 : Nat) : Int) from rfl, u64_xor_nat _ _ ha (by omega), xor_top' _ ha]
  split <;> split <;> omega
theorem byte_at (M j : Nat) : (M : Int) / 2 ^ (8 * j) % 256 = ((M / 256 ^ j % 256 : Nat) : Int) := by
  have e : (256 : Nat) ^ j = 2 ^ (8 * j) := by rw [Nat.pow_mul]
  rw [e]
  simp
def prt0 : Prt := ⟨false, 0, []⟩
theorem prt_get (l : List Prt) (k j : Nat) (hk : k < l.length) (hj : j < 3) : (l.flatMap Prt.cells)[k * 3 + j]? = (l.getD k prt0).cells[j]? := by
  induction l generalizing k with
  | nil => simp at hk
  | cons v l ih =>
    cases k with
    | zero =>
      rw [List.flatMap_cons, Nat.zero_mul, Nat.zero_add, List.getElem?_append_left (by simp; omega)]
      rfl
    | succ k =>
      have e : (k + 1) * 3 + j = v.cells.length + (k * 3 + j) := by simp; omega
      rw [List.flatMap_cons, e, List.getElem?_append_right (by omega), Nat.add_sub_cancel_left, ih k (by simpa using hk)]
      rfl
theorem Rd.prt {w : World} {A : Option Addr} {l : List Prt} (h : Rd w A (l.flatMap Prt.cells)) {k : Nat} (hk : k < l.length) : ∃ b o, A = some ⟨b, o, none⟩ ∧
    (w.cell? ⟨b, o + k * 3, none⟩ = some (.bool (l.getD k prt0).isT) ∧ w.cell? ⟨b, o + k * 3 + 1, none⟩ = some (.int .i64 (l.getD k prt0).num) ∧ w.cell? ⟨b, o + k * 3 + 2, none⟩ = some (.string ⟨(l.getD k prt0).txt.toArray⟩)) := by
  obtain ⟨b, o, hA, _, hc⟩ := h.at_ (by intro e; have := prt_get l k 0 hk (by omega); rw [e] at this; cases this)
  refine ⟨b, o, hA, ?_⟩
  have f : ∀ j u, j < 3 → (l.getD k prt0).cells[j]? = some u → w.cell? ⟨b, o + k * 3 + j, none⟩ = some u := by
    intro j u hj hu
    have := hc (k * 3 + j) u (by rw [prt_get l k j hk hj]; exact hu)
    rwa [← Nat.add_assoc] at this
  exact ⟨f 0 _ (by omega) rfl, f 1 _ (by omega) rfl, f 2 _ (by omega) rfl⟩
def Prt.Fit (p : Prt) : Prop := p.txt.length ≤ 100000 ∧ -9223372036854775808 ≤ p.num ∧ p.num ≤ 9223372036854775807
theorem esc_len (l : List UInt8) : (esc l).length ≤ 2 * l.length := by
  induction l with
  | nil => simp [esc]
  | cons c s ih =>
    have e : esc (c :: s) = (if c = 0 then [0, 255] else [c]) ++ esc s := rfl
    rw [e, List.length_append, List.length_cons]
    split <;> simp only [List.length_cons, List.length_nil] <;> omega
theorem prt_len (p : Prt) (h : p.Fit) : p.bytes.length ≤ 200010 := by
  have := esc_len p.txt
  have := h.1
  unfold Prt.bytes
  split
  · simp; omega
  · simp [numB, unbe_length]
theorem wrt_len (l : List Prt) (h : ∀ p ∈ l, p.Fit) : (wrt l).length ≤ 200010 * l.length := by
  induction l with
  | nil => simp [wrt]
  | cons p l ih =>
    have h1 := prt_len p (h p (by simp))
    have h2 := ih (fun y hy => h y (by simp [hy]))
    simp only [wrt, List.flatMap_cons, List.length_append, List.length_cons] at *
    omega

set_option maxRecDepth 100000 in
set_option maxHeartbeats 1000000 in
theorem owrite_c (A : Option Addr) (n c : Nat) (l : List Prt) (w : World) (hA : Rd w A (l.flatMap Prt.cells)) (hn : l.length = n) (hnb : n ≤ 1000) (hv : ∀ p ∈ l, p.Fit) :
   Calls Try.prog 95 #[.slice A n c] w fun e w' => ∃ A' N c', e = .returned (.slice A' N c') ∧ N = (wrt l).length ∧ w'.ownsRow w.heap.size 5 1 (.slice A' N c') N ((wrt l).map bv) ∧ Below w.heap.size w w' := by
  replace hn := Lib.hid hn
  replace hv := Lib.hid hv
  go_enter Try.func95, Try.ntmps95
  go_wp2_with fail
  go_loopw [3, 11] (fun b i wr => ∃ (k : Nat) (A' : Option Addr) (N c' : Nat), k ≤ n ∧ i = .int .i64 (k : Int) ∧ b = .slice A' N c' ∧ N = (wrt (l.take k)).length ∧ wr.ownsRow w.heap.size 5 1 (.slice A' N c') N ((wrt (l.take k)).map bv) ∧ Below w.heap.size w wr)
     (fun _ i _ => n - (intOf i).toNat)
  case atStart => exact ⟨0, none, 0, 0, by omega, rfl, rfl, rfl, World.ownsRow_nil _ _ _ _, Below.refl _ _⟩
  case round =>
    obtain ⟨k, A', N, c', hk, rfl, rfl, hN, hown, hB⟩ := hrel
    replace hN := Lib.hid hN
    by_cases hlt : k < n
    · have hlt' : k < l.length := by rw [hn.out]; exact hlt
      obtain ⟨b, o, rfl, c0, c1, c2⟩ := (hA.ext hB).prt hlt'
      have hbl : b < wr.heap.size := cell_lt c0
      have htk := take_flat Prt.bytes l k prt0 hlt'
      have hfit : (l.getD k prt0).Fit := hv.out _ (by rw [List.getD_eq_getElem?_getD, List.getElem?_eq_getElem hlt']; simp)
      have hfl := wrt_len (l.take k) (fun y hy => hv.out y (List.mem_of_mem_take hy))
      have hfl' : (List.take k l).length ≤ k := List.length_take_le _ _
      have hNb : N ≤ 200010 * k := by rw [hN.out]; omega
      generalize l.getD k prt0 = p at *
      obtain ⟨isT, num, txt⟩ := p
      replace htk := Lib.hid htk
      obtain ⟨ht1, ht2, ht3⟩ := hfit
      simp only at ht1 ht2 ht3 c0 c1 c2
      clear hfl hfl' hlt'
      obtain ⟨wo, hwo⟩ : ∃ wo : World, wo = wr := ⟨_, rfl⟩
      cases isT
      · have tok1 : True := trivial
        go_wp2_with (at_builtin; have _t := tok1; refine wl_append rfl _ _ 29 rfl _ _ 1 1 siB w.heap.size w ((hB.alloc hB.size _).alloc (by have := hB.size; simp; omega) _) (Nat.le_refl _) A' N c' _ rfl ((hown.alloc _).alloc _) (some ⟨wr.heap.size + 1, 0, none⟩) 1 1 [bv 1] rfl rfl (Rd.newAt _ _ (by simp) [_] _) (bvs_one [_]) (N + 1) ((wrt (l.take k) ++ [1]).map bv) rfl (by simp) (by omega) (by omega) ?_; intro A3 c3 w3 hown3 hB3 hg3 hl3; clear tok1; have p3 : w3.cell? ⟨wr.heap.size, 1, none⟩ = some (.int .i64 num) := grown_cell hg3 (by go_simp) (own_ne hown))
        obtain ⟨M, hM, hMlt⟩ := xor_num num ht2 ht3
        obtain ⟨hM1, hM2⟩ := hM
        rw [hM1]
        clear hM1
        replace hM2 := Lib.hid hM2
        subst hwo
        go_loopw [3, 8] (fun b i wi => ∃ (j : Nat) (A2 : Option Addr) (N2 c2 : Nat), j ≤ 8 ∧ i = .int .i64 ((j : Int) - 1) ∧ b = .slice A2 N2 c2 ∧ N2 = N + 1 + (8 - j) ∧ wi.ownsRow w.heap.size 5 1 (.slice A2 N2 c2) N2 ((wrt (l.take k) ++ [1] ++ unbe (M / 256 ^ j) (8 - j)).map bv) ∧ Below w.heap.size w wi)
          (fun _ i _ => (intOf i + 1).toNat)
        (case atStart => exact ⟨8, A3, N + 1, c3, by omega, rfl, rfl, rfl, by simpa [unbe] using hown3, hB3⟩)
        obtain ⟨j, A2, N2, c2', hj, rfl, rfl, hN2, hown2, hB2⟩ := hrel
        cases j with
        | succ j =>
          have hb := byte_at M j
          have hu : unbe (M / 256 ^ j) (8 - j) = unbe (M / 256 ^ (j + 1)) (8 - (j + 1)) ++ [UInt8.ofNat (M / 256 ^ j)] := by
            obtain ⟨r, hr⟩ : ∃ r, 8 - j = r + 1 := ⟨7 - j, by omega⟩
            rw [hr, unbe, Nat.div_div_eq_div_mul, ← Nat.pow_succ, show 8 - (j + 1) = r by omega]
          replace hu := Lib.hid hu
          have hN2' : N2 ≤ N + 9 := by omega
          replace hN2 := Lib.hid hN2
          replace hb := Lib.hid hb
          go_wp2_with (at_builtin; refine wl_append rfl _ _ 29 rfl _ _ 1 1 siB w.heap.size w (hB2.alloc hB2.size _) (Nat.le_refl _) A2 N2 c2' _ rfl (hown2.alloc _) (some ⟨wr.heap.size, 0, none⟩) 1 1 [bv (UInt8.ofNat (M / 256 ^ j))] rfl rfl (Rd.new1 wr _ _ _ (bv_of _ _ hb.out)) (bvs_one [_]) (N2 + 1) ((wrt (l.take k) ++ [1] ++ unbe (M / 256 ^ j) (8 - j)).map bv) rfl (by rw [hu.out, ← List.append_assoc, List.map_append (l₂ := [_])]; rfl) (by omega) (by omega) ?_; intro A4 c4 w4 hown4 hB4 hg4 hl4)
          go_roundw
          case rel => exact ⟨j, A4, N2 + 1, c4, by omega, by first | rfl | go_num, rfl, by rw [hN2.out]; omega, hown4, hB4⟩
          case measure => simp [intOf]
        | zero =>
          go_wp2
          go_roundw
          case rel =>
            have hwk : wrt (l.take (k + 1)) = wrt (l.take k) ++ [1] ++ unbe M 8 := by rw [show wrt (l.take (k + 1)) = wrt (l.take k) ++ Prt.bytes ⟨false, num, txt⟩ from htk.out]; simp [Prt.bytes, numB, hM2.out]
            refine ⟨k + 1, A2, N2, c2', by omega, by go_num, rfl, by rw [hwk, hN2, hN.out]; simp [unbe_length], ?_, hB2⟩
            rw [hwk]
            simpa using hown2
          case measure => simp [intOf]; omega
      · obtain ⟨s, hs⟩ : ∃ s : ByteArray, s = ⟨txt.toArray⟩ := ⟨_, rfl⟩
        have hss : s.size = txt.length := by subst hs; simp [ByteArray.size]
        have hsd : s.data.toList = txt := by subst hs; rfl
        rw [← hs] at c2
        replace hs := Lib.hid hs
        replace hsd := Lib.hid hsd
        rw [← hss] at ht1
        replace hss := Lib.hid hss
        have tok1 : True := trivial
        go_wp2_with (at_builtin; have _t := tok1; refine wl_append rfl _ _ 29 rfl _ _ 1 1 siB w.heap.size w ((hB.alloc hB.size _).alloc (by have := hB.size; simp; omega) _) (Nat.le_refl _) A' N c' _ rfl ((hown.alloc _).alloc _) (some ⟨wr.heap.size + 1, 0, none⟩) 1 1 [bv 2] rfl rfl (Rd.newAt _ _ (by simp) [_] _) (bvs_one [_]) (N + 1) ((wrt (l.take k) ++ [2]).map bv) rfl (by simp) (by omega) (by omega) ?_; intro A3 c3 w3 hown3 hB3 hg3 hl3; clear tok1; have p3 : w3.cell? ⟨wr.heap.size, 2, none⟩ = some (.string s) := grown_cell hg3 (by go_simp) (own_ne hown))
        have hne3 : (Value.slice A3 (N + 1) c3).ownBlock ≠ some wr.heap.size := by
          rcases hl3 with h | h <;> rw [h]
          · exact own_ne hown
          · simp
            omega
        subst hwo
        go_loopw [3, 23] (fun b i wi => ∃ (j : Nat) (A2 : Option Addr) (N2 c2 : Nat), j ≤ s.size ∧ i = .int .i64 (j : Int) ∧ b = .slice A2 N2 c2 ∧ N2 = (wrt (l.take k) ++ [2] ++ esc (txt.take j)).length ∧ N2 ≤ N + 1 + 2 * j ∧ wi.ownsRow w.heap.size 5 1 (.slice A2 N2 c2) N2 ((wrt (l.take k) ++ [2] ++ esc (txt.take j)).map bv) ∧ Below w.heap.size w wi ∧
            (Value.slice A2 N2 c2).ownBlock ≠ some wo.heap.size ∧ wi.cell? ⟨wo.heap.size, 2, none⟩ = some (.string s))
          (fun _ i _ => s.size - (intOf i).toNat)
        (case atStart => exact ⟨0, A3, N + 1, c3, by omega, rfl, rfl, by simp [esc, hN.out], by omega, by simpa [esc] using hown3, hB3, hne3, p3⟩)
        obtain ⟨j, A2, N2, c2', hj, rfl, rfl, hN2, hN2b, hown2, hB2, hne2, p2⟩ := hrel
        replace hN2 := Lib.hid hN2
        replace hne2 := Lib.hid hne2
        have hob : wo.heap.size < wr.heap.size := cell_lt p2
        by_cases hjl : j < s.size
        · have h1 : j < txt.length := by rw [← hss.out]; exact hjl
          have hx : s[j] = txt.getD j 0 := by
            have : s[j] = s.data.toList[j]'(by simpa using hjl) := by simp; rfl
            rw [this]
            simp [hsd.out, List.getD_eq_getElem?_getD, h1]
          have hstep : esc (txt.take (j + 1)) = esc (txt.take j) ++ (if s[j] = 0 then [0, 255] else [s[j]]) := by
            unfold esc
            rw [take_flat (fun c : UInt8 => if c = 0 then [0, 255] else [c]) txt j 0 h1, ← hx]
          replace hstep := Lib.hid hstep
          clear hx h1
          have tok1 : True := trivial
          by_cases hz : s[j] = 0
          · have hz1 : ((s[j].toNat : Int) == 0) = true := by rw [hz]; rfl
            replace hz := Lib.hid hz
            have tok2 : True := trivial
            go_wp2_with (first
              | (at_builtin; have _t := tok1; refine wl_append rfl _ _ 29 rfl _ _ 1 1 siB w.heap.size w (hB2.alloc hB2.size _) (Nat.le_refl _) A2 N2 c2' _ rfl (hown2.alloc _) (some ⟨wr.heap.size, 0, none⟩) 1 1 [bv s[j]] rfl rfl (Rd.new wr [_] _) (bvs_one [_]) (N2 + 1) ((wrt (l.take k) ++ [2] ++ esc (txt.take j) ++ [s[j]]).map bv) rfl (by rw [List.map_append (l₂ := [_])]; rfl) (by omega) (by omega) ?_; intro A4 c4 w4 hown4 hB4 hg4 hl4; clear tok1; have p4 : w4.cell? ⟨wo.heap.size, 2, none⟩ = some (.string s) := grown_cell hg4 (cell_alloc p2 _) hne2.out; have hne4 := Lib.hid (ne_next hl4 hne2.out (by simp; omega)))
              | (at_builtin; have _t := tok2; refine wl_append rfl _ _ 29 rfl _ _ 1 1 siB w.heap.size w (hB4.alloc hB4.size _) (Nat.le_refl _) A4 (N2 + 1) c4 _ rfl (hown4.alloc _) (some ⟨w4.heap.size, 0, none⟩) 1 1 [bv 255] rfl rfl (Rd.new w4 [_] _) (bvs_one [_]) (N2 + 2) ((wrt (l.take k) ++ [2] ++ esc (txt.take (j + 1))).map bv) rfl (by rw [hstep.out, if_pos hz.out, hz.out]; simp) (by omega) (by omega) ?_; intro A5 c5 w5 hown5 hB5 hg5 hl5; clear tok2; have p5 : w5.cell? ⟨wo.heap.size, 2, none⟩ = some (.string s) := grown_cell hg5 (cell_alloc p4 _) hne4.out))
            go_roundw
            case rel =>
              exact ⟨j + 1, A5, N2 + 2, c5, by omega, by go_num, rfl, by rw [hstep.out, if_pos hz.out, hN2.out]; simp; omega, by omega, hown5, hB5, ne_next hl5 hne4.out (by have := cell_lt p4; simp at this ⊢; omega), p5⟩
            case measure => simp [intOf]; omega
          · have hz1 : ((s[j].toNat : Int) == 0) = false := beq_eq_false_iff_ne.2 (fun e => hz (UInt8.toNat_inj.1 (by show s[j].toNat = 0; omega)))
            replace hz := Lib.hid hz
            go_wp2_with (at_builtin; have _t := tok1; refine wl_append rfl _ _ 29 rfl _ _ 1 1 siB w.heap.size w (hB2.alloc hB2.size _) (Nat.le_refl _) A2 N2 c2' _ rfl (hown2.alloc _) (some ⟨wr.heap.size, 0, none⟩) 1 1 [bv s[j]] rfl rfl (Rd.new wr [_] _) (bvs_one [_]) (N2 + 1) ((wrt (l.take k) ++ [2] ++ esc (txt.take (j + 1))).map bv) rfl (by rw [hstep.out, if_neg hz.out]; simp) (by omega) (by omega) ?_; intro A4 c4 w4 hown4 hB4 hg4 hl4; clear tok1; have p4 : w4.cell? ⟨wo.heap.size, 2, none⟩ = some (.string s) := grown_cell hg4 (cell_alloc p2 _) hne2.out)
            go_roundw
            case rel =>
              refine ⟨j + 1, A4, N2 + 1, c4, by omega, by go_num, rfl, by rw [hstep.out, if_neg hz.out, hN2.out]; simp; omega, by omega, hown4, hB4, ne_next hl4 hne2.out (by simp; omega), p4⟩
            case measure => simp [intOf]; omega
        · have e : j = s.size := by omega
          subst e
          have htt := List.take_of_length_le (l := txt) (i := s.size) (by rw [hss.out]; exact Nat.le_refl _)
          rw [htt] at hN2 hown2
          clear htt
          have hwk : wrt (l.take (k + 1)) = wrt (l.take k) ++ [2] ++ esc txt ++ [0, 1] := by rw [show wrt (l.take (k + 1)) = wrt (l.take k) ++ Prt.bytes ⟨true, num, txt⟩ from htk.out]; simp [Prt.bytes]
          replace hwk := Lib.hid hwk
          go_wp2_with (at_builtin; refine wl_append rfl _ _ 29 rfl _ _ 1 1 siB w.heap.size w (hB2.alloc hB2.size _) (Nat.le_refl _) A2 N2 c2' _ rfl (hown2.alloc _) (some ⟨wr.heap.size, 0, none⟩) 2 2 [bv 0, bv 1] rfl rfl (Rd.new wr [_, _] _) (bvs_one [_, _]) (N2 + 2) ((wrt (l.take (k + 1))).map bv) rfl (by rw [hwk.out, List.map_append (l₂ := [0, 1])]; rfl) (by omega) (by omega) ?_; intro A4 c4 w4 hown4 hB4 hg4 hl4)
          go_roundw
          case rel =>
            exact ⟨k + 1, A4, N2 + 2, c4, by omega, by go_num, rfl, by rw [hN2.out, hwk.out]; simp; omega, hown4, hB4⟩
          case measure => simp [intOf]; omega
    · go_wp2
      go_ret
      have e : k = n := by omega
      subst e
      have hN' := hN.out
      rw [List.take_of_length_le (by rw [hn.out]; omega)] at hown hN'
      exact ⟨A', N, c', rfl, hN', hown, hB⟩

/-- A table's key: it, or the error. -/
def keyOf' (table : Int) (s : List UInt8) : List UInt8 × Int := if table < 0 ∨ 4 ≤ table then ([], 1) else if 40 < s.length then ([], 5) else (wrt [⟨false, table, []⟩, ⟨true, 0, s⟩], 0)

set_option maxRecDepth 100000 in
set_option maxHeartbeats 1000000 in
theorem okey_c (table : Int) (s : ByteArray) (w : World) (hs : s.size ≤ 1099511627776) :
   Calls Try.prog 87 #[.int .i64 table, .string s] w fun e w' => e = .returned (.tuple #[.string ⟨(keyOf' table s.data.toList).1.toArray⟩, .int .i64 (keyOf' table s.data.toList).2]) ∧ Below w.heap.size w w' := by
  have hsz : s.data.toList.length = s.size := by simp
  by_cases h1 : table < 0
  · have e : keyOf' table s.data.toList = ([], 1) := by rw [keyOf', if_pos (.inl h1)]
    replace e := Lib.hid e
    replace hsz := Lib.hid hsz
    go_enter Try.func87, Try.ntmps87
    go_wp2
    go_ret2
    rw [e.out]
    exact ⟨rfl, Below.refl _ _⟩
  · by_cases h2 : 4 ≤ table
    · have e : keyOf' table s.data.toList = ([], 1) := by rw [keyOf', if_pos (.inr h2)]
      replace e := Lib.hid e
      replace hsz := Lib.hid hsz
      go_enter Try.func87, Try.ntmps87
      go_wp2
      go_ret2
      rw [e.out]
      exact ⟨rfl, Below.refl _ _⟩
    · by_cases h3 : 40 < s.size
      · have e : keyOf' table s.data.toList = ([], 5) := by rw [keyOf', if_neg (by omega), if_pos (by rw [hsz]; exact h3)]
        replace e := Lib.hid e
        replace hsz := Lib.hid hsz
        go_enter Try.func87, Try.ntmps87
        go_wp2
        go_ret2
        rw [e.out]
        exact ⟨rfl, Below.refl _ _⟩
      · have e : keyOf' table s.data.toList = (wrt [⟨false, table, []⟩, ⟨true, 0, s.data.toList⟩], 0) := by rw [keyOf', if_neg (by omega), if_neg (by rw [hsz]; exact h3)]
        replace e := Lib.hid e
        have hf : ∀ p ∈ [(⟨false, table, []⟩ : Prt), ⟨true, 0, s.data.toList⟩], p.Fit := by
          intro p hp
          simp only [List.mem_cons, List.not_mem_nil, or_false] at hp
          rcases hp with rfl | rfl
          · exact ⟨by simp, by simp only; omega, by simp only; omega⟩
          · exact ⟨by rw [hsz]; omega, by simp, by simp⟩
        replace hf := Lib.hid hf
        replace hsz := Lib.hid hsz
        obtain ⟨L, hL⟩ : ∃ L, L = [(⟨false, table, []⟩ : Prt), ⟨true, 0, s.data.toList⟩] := ⟨_, rfl⟩
        replace hL := Lib.hid hL
        go_enter Try.func87, Try.ntmps87
        go_wp2_with fail
        refine (owrite_c (some ⟨w.heap.size, 0, none⟩) 2 2 L _ (by rw [hL.out]; exact Rd.newAt _ _ rfl [_, _, _, _, _, _] _) (by rw [hL.out]; rfl) (by omega) (by rw [hL.out]; exact hf.out)).mono ?_
        rintro e' w2 ⟨A2, N2, c2, rfl, hN2, hown2, hB2⟩
        have hBB : Below w.heap.size w w2 := ((Below.refl _ _).alloc (Nat.le_refl _) _).trans (hB2.mono (by simp))
        have hcv := conv_str (P := Try.prog) w2 29 9 5 Try.underlying29 Try.underlying5 Try.underlying9 A2 N2 c2 (wrt L) (Rd.of_own hown2) hN2.symm
        replace hN2 := Lib.hid hN2
        go_wp2
        go_ret2
        rw [e.out, ← hL.out]
        exact ⟨rfl, hBB⟩
end Go.Proofs.Ytkmmaijkidkoiaa
