/- What stands in the file is just the document's frames: the law's walk. -/
import Derived.Test.YtkmmaijkidkoiaaWalF
namespace Go.Proofs.Ytkmmaijkidkoiaa
open Go Go.RowKit

/-- A group of the argument, as it lies. -/
structure Gr where
  ep : Int
  A : Option Addr
  n : Nat
  c : Nat
  rows : List Ver
abbrev Gr.cells (g : Gr) : List Value := [.int .i64 g.ep, .slice g.A g.n g.c]
structure Gr.Ok (w : World) (g : Gr) : Prop where
  rd : Rd w g.A (g.rows.flatMap Ver.cells)
  len : g.rows.length = g.n
  le : g.n ≤ 140737488355328
  vs : ∀ v ∈ g.rows, v.key.size ≤ 140737488355328 ∧ v.val.size ≤ 140737488355328
  e0 : -9223372036854775808 ≤ g.ep
  e1 : g.ep ≤ 9223372036854775807
def gr0 : Gr := ⟨0, none, 0, 0, []⟩
theorem Gr.Ok.ext {w w' : World} {g : Gr} (h : g.Ok w) (hb : Below w.heap.size w w') : g.Ok w' := ⟨h.rd.ext hb, h.len, h.le, h.vs, h.e0, h.e1⟩
theorem gflat_len (l : List Gr) : (l.flatMap Gr.cells).length = l.length * 2 := by
  induction l with
  | nil => rfl
  | cons a l ih => simp only [List.flatMap_cons, List.length_append, List.length_cons, ih, List.length_nil]; omega
theorem gflat_get (l : List Gr) (k j : Nat) (hk : k < l.length) (hj : j < 2) : (l.flatMap Gr.cells)[k * 2 + j]? = (l.getD k gr0).cells[j]? := by
  induction l generalizing k with
  | nil => simp at hk
  | cons a l ih =>
    cases k with
    | zero =>
      simp only [List.flatMap_cons, Nat.zero_mul, Nat.zero_add]
      rw [List.getElem?_append_left (by simp; omega)]
      rfl
    | succ k =>
      simp only [List.flatMap_cons]
      rw [List.getElem?_append_right (by simp; omega)]
      have := ih k (by simpa using hk)
      rw [show (k + 1) * 2 + j - a.cells.length = k * 2 + j by simp; omega, this]
      simp
theorem Rd.gr {w : World} {A : Option Addr} {l : List Gr} (h : Rd w A (l.flatMap Gr.cells)) {k : Nat} (hk : k < l.length) : ∃ b o, A = some ⟨b, o, none⟩ ∧ w.cell? ⟨b, o + k * 2, none⟩ = some (.int .i64 (l.getD k gr0).ep) ∧ w.cell? ⟨b, o + k * 2 + 1, none⟩ = some (.slice (l.getD k gr0).A (l.getD k gr0).n (l.getD k gr0).c) := by
  obtain ⟨b, o, hA, _, hc⟩ := h.at_ (by intro e; have := gflat_len l; rw [e] at this; simp at this; omega)
  refine ⟨b, o, hA, ?_, ?_⟩
  · have := hc (k * 2 + 0) _ (by rw [gflat_get l k 0 hk (by omega)]; rfl)
    simpa using this
  · have := hc (k * 2 + 1) _ (by rw [gflat_get l k 1 hk (by omega)]; rfl)
    rw [← Nat.add_assoc] at this
    exact this

theorem gcut_ver {ep : Int} {l : List Ver} {v : Ver} (h : v ∈ gcut ep l) : v.key.size ≤ 110 ∧ v.val.size ≤ 210 := by
  obtain ⟨u, _, rfl⟩ := List.mem_map.1 h
  exact ⟨cutS_size _ _, cutS_size _ _⟩
theorem ver_small {v : Ver} (h : v.Fit) (h1 : v.key.size ≤ 110) (h2 : v.val.size ≤ 210) : v.bytes.length ≤ 400 := by
  have h3 := flat_len v.ns h.ns
  have h4 := txt_len [v.key, v.val] (by intro s hs; simp at hs; rcases hs with rfl | rfl <;> omega)
  simp only [Ver.bytes, List.length_append, Ver.ns, List.length_cons, List.length_nil, List.map_cons, List.map_nil, List.sum_cons, List.sum_nil] at *
  omega
theorem frame_small (ep : Int) (l : List Ver) (h : okG ep (gcut ep l) = true) : (frame (gbytes ep (gcut ep l))).length ≤ 2000 := by
  obtain ⟨h1, h2, h3⟩ := okG_in h
  have hl := gcut_len ep l
  have hv : ∀ L : List Ver, (∀ v ∈ L, v ∈ gcut ep l) → (L.flatMap Ver.bytes).length ≤ 400 * L.length := by
    intro L hL
    induction L with
    | nil => simp
    | cons a L ih =>
      have ha := hL a (by simp)
      have := ver_small (okv_fit (h3 a ha) (by have := (gcut_ver ha).1; omega)) (gcut_ver ha).1 (gcut_ver ha).2
      have := ih (fun v hv => hL v (by simp [hv]))
      simp only [List.flatMap_cons, List.length_append, List.length_cons]
      omega
  have := hv _ (fun v hv => hv)
  have h10 : (putI ep).length ≤ 10 := putN_len10 _ (by omega)
  have h11 : (putN (gcut ep l).length).length ≤ 10 := putN_len10 _ (by omega)
  rw [frame_len, gbytes, vlist, List.length_append, List.length_append]
  omega

set_option maxRecDepth 100000 in
set_option maxHeartbeats 2000000 in
theorem walbytes_c (L : Option Addr) (n c : Nat) (gs : List Gr) (w : World) (hL : Rd w L (gs.flatMap Gr.cells)) (hn : gs.length = n) (hnb : n ≤ 140737488355328) (hg : ∀ g ∈ gs, g.Ok w) :
   Calls Try.prog 3 #[.slice L n c] w fun e w' => e = .returned (.bool true) ∧ Below w.heap.size w w' := by
  have hcr : ∀ w', DiskAt (fun _ => True) w' (w.heap.size + 1) w.heap.size (dk0 100000) → Calls Try.prog 6 #[.pointer (some ⟨w.heap.size + 1, 0, none⟩), .string ⟨#[108, 111, 103]⟩] w' fun e w2 => ∃ g, e = .returned (.tuple #[.pointer (some ⟨g, 0, none⟩), .int .i64 0]) ∧ w'.heap.size ≤ g ∧ LogAt w2 g (w.heap.size + 1) logB 0 false ∧ DiskAt (fun _ => True) w2 (w.heap.size + 1) w.heap.size (dkl 100000 []) ∧ Turn [w.heap.size + 1, w.heap.size] w' w2 := by
    intro w' h'
    have hf : (dk0 100000).fresh logB.data.toList [] = (0, dkl 100000 []) := fresh_dk0 100000 (by omega)
    have := lcreate_c _ _ _ logB w' h' (by decide) (by rw [hf])
    rw [hf] at this
    exact this
  have hrd : ∀ fp w' B, DiskAt fp w' (w.heap.size + 1) w.heap.size (dkl 100000 B) → B.length ≤ 100000 → Calls Try.prog 11 #[.pointer (some ⟨w.heap.size + 1, 0, none⟩), .string ⟨#[108, 111, 103]⟩, .int .i64 0, .int .i64 100000] w' fun e w2 => ∃ A n c, e = .returned (.tuple #[.slice A n c, .int .i64 0]) ∧ n = B.length ∧ w2.ownsRow w'.heap.size 5 1 (.slice A n c) n (B.map bv) ∧ Below w'.heap.size w' w2 := by
    intro fp w' B h' hB
    have := read_c _ _ _ logB 0 100000 w' h' (by decide) (by omega) (by omega)
    have e : (dkl 100000 B).read logB.data.toList 0 100000 = (0, B) := by
      have e0 : (dkl 100000 B).F.get logB.data.toList = ⟨logN, B, B.length⟩ := rfl
      unfold Dk.read
      rw [if_neg (by simp [dkl]), if_pos (by rfl), if_neg (by omega), e0]
      show ((0 : Int), (B.drop 0).take 100000) = (0, B)
      rw [List.drop_zero, List.take_of_length_le (by omega)]
    rw [e] at this
    exact this
  replace hcr := Lib.hid hcr
  replace hrd := Lib.hid hrd
  replace hn := Lib.hid hn
  replace hg := Lib.hid hg
  go_enter Try.func3, Try.ntmps3
  go_wp2_with fail
  refine (dnew_c (fp := fun _ => True) 100000 w (by omega) (by omega) (fun _ _ => trivial)).mono ?_
  rintro e w1 ⟨rfl, hD1, hB1⟩
  have hsz := hD1.ltd
  go_wp2_with fail
  refine (hcr.out w1 hD1).mono ?_
  rintro e w2 ⟨g, rfl, hgw, hL2, hD2, ht2⟩
  have hgn : g ∉ [w.heap.size + 1, w.heap.size] := by simp; omega
  have hB2 := hB1.trans (ht2.below hB1.size (by simp))
  replace hL2 := Lib.hid hL2
  replace hD2 := Lib.hid hD2
  replace ht2 := Lib.hid ht2
  replace hB2 := Lib.hid hB2
  clear hD1 hB1
  go_wp2_with fail
  go_loopw [6, 7, 8] (fun s la i wr => ∃ (fp : Nat → Prop) (k : Nat) (last : Int) (B : List UInt8) (A : Option Addr) (N c' : Nat), k ≤ n ∧ k ≤ 6 ∧ i = .int .i64 (k : Int) ∧ la = .int .i64 last ∧ 0 ≤ last ∧ last ≤ 10000 ∧ s = .slice A N c' ∧ N = B.length ∧ wr.ownsRow w.heap.size 5 1 (.slice A N c') N (B.map bv) ∧ N ≤ 2000 * k ∧
      DiskAt fp wr (w.heap.size + 1) w.heap.size (dkl 100000 B) ∧ LogAt wr g (w.heap.size + 1) logB last false ∧ Below w.heap.size w wr ∧ ∀ gw, (Value.slice A N c').ownBlock = some gw → ¬ fp gw) (fun _ _ i _ => 6 - (intOf i).toNat)
  case atStart => exact ⟨fun _ => True, 0, 0, [], none, 0, 0, by omega, by omega, rfl, rfl, by omega, by omega, rfl, rfl, World.ownsRow_nil _ _ _ _, by omega, hD2.out, hL2.out, hB2.out, by intro gw e; simp [Value.ownBlock] at e⟩
  case round =>
    clear hL2 hD2 ht2 hB2
    obtain ⟨fp, k, last, B, A, N, c', hkn, hk6, rfl, rfl, hl0, hl1, rfl, hN, hown, hNk, hD, hLg, hB, hnf⟩ := hrel
    replace hnf := Lib.hid hnf
    have hgl := hLg.lt
    have hdl := hD.ltd
    replace hN := Lib.hid hN
    replace hD := Lib.hid hD
    replace hLg := Lib.hid hLg
    by_cases hlt : k < n ∧ k < 6
    · obtain ⟨hlt1, hlt2⟩ := hlt
      have hlt' : k < gs.length := by rw [hn.out]; exact hlt1
      obtain ⟨b, o, rfl, q0, q1⟩ := (hL.ext hB).gr hlt'
      have hok := (hg.out (gs.getD k gr0) (by rw [List.getD_eq_getElem?_getD, List.getElem?_eq_getElem hlt']; simp)).ext hB
      clear hlt'
      generalize gs.getD k gr0 = G at *
      obtain ⟨ep, GA, gn, gc, rows⟩ := G
      simp only at q0 q1
      have hcut := rgcut_c ep GA gn gc rows wr hok.rd hok.len hok.le hok.vs
      have he0 : -9223372036854775808 ≤ ep := hok.e0
      have he1 : ep ≤ 9223372036854775807 := hok.e1
      replace hcut := Lib.hid hcut
      clear hok
      go_wp2_with fail
      refine hcut.out.mono ?_
      rintro e w3 ⟨CA, CN, Cc, rfl, hCN, hrow, hB3⟩
      have hB3' := hB.trans (hB3.mono hB.size)
      have hnv : ∀ v ∈ gcut ep rows, v.key.size ≤ 100000 := fun v hv => by have := (gcut_ver hv).1; omega
      have hgl3 : g < w3.heap.size := Nat.lt_of_lt_of_le hgl hB3.size
      have hdl3 : w.heap.size + 1 < w3.heap.size := Nat.lt_of_lt_of_le hdl hB3.size
      have hCA : ∀ g' o, CA = some ⟨g', o, none⟩ → wr.heap.size ≤ g' ∧ g' < w3.heap.size := by
        intro g' o e
        subst e
        exact hrow.lt g' (by rcases hrow.2 with ⟨h', _⟩ | ⟨g2, cap, cur, h', _⟩ <;> simp at h'; simp [Value.ownBlock, h'])
      have hBW : Below w3.heap.size w3 (w3.alloc (.cells #[.int .i64 ep, .slice CA CN Cc] 32)) := (Below.refl _ _).alloc (Nat.le_refl _) _
      have hD4 : DiskAt fp (w3.alloc (.cells #[.int .i64 ep, .slice CA CN Cc] 32)) (w.heap.size + 1) w.heap.size (dkl 100000 B) := (hD.out.ext hB3).ext hBW
      have hL4 : LogAt (w3.alloc (.cells #[.int .i64 ep, .slice CA CN Cc] 32)) g (w.heap.size + 1) logB last false := (hLg.out.turn (S := []) (.ofBelow hB3) (by simp)).turn (S := []) (.ofBelow hBW) (by simp)
      have hown4 := own_ext (own_ext hown hB3) hBW
      have hR4 : Rd (w3.alloc (.cells #[.int .i64 ep, .slice CA CN Cc] 32)) CA ((gcut ep rows).flatMap Ver.cells) := (Rd.of_own hrow).ext hBW
      have hcn4 : CN ≤ 4 := by rw [hCN]; exact gcut_len _ _
      have happ := lappend_c (w.heap.size + 1) w.heap.size g (dkl 100000 B) logB last false ep CA CN Cc (gcut ep rows) _ hD4 hL4 (by decide) hR4 (by intro g' o e; have := hCA g' o e; simp; omega) hCN.symm (by omega) hnv hgn
      have hfs := frame_small ep rows
      rw [show logB.data.toList = logN from rfl, logApp_dkl 100000 B last ep (gcut ep rows) (fun h => by have := hfs h; have := hN.out; omega)] at happ
      have hmy := fun w hA => refgmay_c ep CA CN Cc (gcut ep rows) w hA hCN.symm (by omega) (fun v hv => by have := hnv v hv; omega)
      have hwrt : okG ep (gcut ep rows) = true → ∀ w, Rd w CA ((gcut ep rows).flatMap Ver.cells) → _ := fun h w hA => rgwrite_c ep CA CN Cc (gcut ep rows) w hA hCN.symm (by omega) (fun v hv => okv_fit ((okG_in h).2.2 v hv) (hnv v hv)) (by have := (okG_in h).1; omega) (okG_in h).2.1
      have hoki := fun h => (okG_in (ep := ep) (l := gcut ep rows) h).2.1
      have hCA' : ∀ g' o, CA = some ⟨g', o, none⟩ → g' ∉ [w.heap.size + 1, w.heap.size, g] := by intro g' o e; have := hCA g' o e; simp; omega
      have hwn : ∀ g', (Value.slice A N c').ownBlock = some g' → g' ∉ [w.heap.size + 1, w.heap.size, g] := by
        intro g' e hm
        simp only [List.mem_cons, List.not_mem_nil, or_false] at hm
        rcases hm with hm | hm | hm
        · exact hD4.offOwn hown4 g' e (by simp [hm])
        · exact hD4.offOwn hown4 g' e (by simp [hm])
        · rcases hown4.2 with ⟨h', _⟩ | ⟨g2, cap, cur, h', _, hh, _⟩
          · rw [h'] at e; simp [Value.ownBlock] at e
          · rw [h'] at e
            simp [Value.ownBlock] at e
            exact hL4.nb _ _ (hm ▸ e ▸ hh)
      generalize hFF : frame (gbytes ep (gcut ep rows)) = FF at *
      generalize hOK : okG ep (gcut ep rows) = q at *
      generalize gcut ep rows = CR at *
      clear hCN hnv hD4 hL4 hFF hOK hCA
      replace happ := Lib.hid happ
      replace hmy := Lib.hid hmy
      replace hwrt := Lib.hid hwrt
      replace hfs := Lib.hid hfs
      replace hoki := Lib.hid hoki
      replace hown := Lib.hid hown
      replace hown4 := Lib.hid hown4
      replace hrow := Lib.hid hrow
      by_cases hmq : (q && decide (last < ep)) = true
      · have happ' := happ.out
        rw [if_pos hmq] at happ'
        replace happ' := Lib.hid happ'
        simp only [Bool.and_eq_true, decide_eq_true_eq] at hmq
        obtain ⟨rfl, hle⟩ := hmq
        have hz3 : w3.heap.size < (w3.alloc (.cells #[.int .i64 ep, .slice CA CN Cc] 32)).heap.size := by simp
        have k0 : (w3.alloc (.cells #[.int .i64 ep, .slice CA CN Cc] 32)).cell? ⟨w3.heap.size, 0, none⟩ = some (.int .i64 ep) := by go_simp
        have k1 : (w3.alloc (.cells #[.int .i64 ep, .slice CA CN Cc] 32)).cell? ⟨w3.heap.size, 1, none⟩ = some (.slice CA CN Cc) := by go_simp
        have hBB4 := hB3'.trans (hBW.mono hB3'.size)
        have hns : w3.heap.size ∉ [w.heap.size + 1, w.heap.size, g] := by simp; omega
        replace hBB4 := Lib.hid hBB4
        replace hBW := Lib.hid hBW
        replace k0 := Lib.hid k0
        replace k1 := Lib.hid k1
        go_wp2_with fail
        refine happ'.out.mono ?_
        rintro e w5 ⟨rfl, hD5, hL5, ht5⟩
        have j0 := ht5.cell k0.out hns
        have j1 := ht5.cell k1.out hns
        have hR5 := ht5.rd hR4 hCA'
        have hown5 := ht5.own hown4.out hwn
        have hBB5 := hBB4.out.trans (ht5.below hBB4.out.size (by simp; omega))
        replace hD5 := Lib.hid hD5
        replace hL5 := Lib.hid hL5
        replace ht5 := Lib.hid ht5
        replace hown5 := Lib.hid hown5
        replace hBB5 := Lib.hid hBB5
        go_wp2_with fail
        refine (hmy.out w5 hR5).mono ?_
        rintro e w6 ⟨rfl, hB6⟩
        have i0 := bel_cell hB6 (cell_lt j0) j0
        have i1 := bel_cell hB6 (cell_lt j1) j1
        have hR6 := hR5.ext hB6
        have hf0 := hfs.out (by trivial)
        have hep := hoki.out (by trivial)
        have hww := hwrt.out (by trivial) w6 hR6
        replace hww := Lib.hid hww
        replace hB6 := Lib.hid hB6
        go_wp2_with fail
        refine hww.out.mono ?_
        rintro e w7 ⟨A7, N7, c7, rfl, hN7, hown7, hB7⟩
        have m0 := bel_cell hB7 (cell_lt i0) i0
        have hown67 := own_ext (own_ext hown5.out hB6.out) hB7
        have hR7 := Rd.of_own hown7
        have hB57 := hB6.out.trans (hB7.mono hB6.out.size)
        have hBB7 := hBB5.out.trans (hB57.mono hBB5.out.size)
        have hD7 := hD5.out.ext hB57
        have hL7 : LogAt w7 g (w.heap.size + 1) logB ep false := hL5.out.turn (S := []) (.ofBelow hB57) (by simp)
        have hz7 := cell_lt m0
        have hNl : N + N7 = (B ++ FF).length := by rw [List.length_append, hN.out, hN7]
        have hN7b : N7 ≤ 2000 := by omega
        replace hD7 := Lib.hid hD7
        replace hL7 := Lib.hid hL7
        replace hNl := Lib.hid hNl
        have hN7l : (FF.map bv).length = N7 * 1 := by simp [hN7]
        replace hN7l := Lib.hid hN7l
        replace hN7 := Lib.hid hN7
        replace hown7 := Lib.hid hown7
        clear hww
        have hwn7 : ∀ gw, (Value.slice A N c').ownBlock = some gw → gw ≠ w3.heap.size := by
          intro gw e h
          have h1 := (hown.out.lt gw e).2
          have h2 := hB3.size
          omega
        go_wp2_with (at_builtin; refine wl_append rfl _ _ 29 rfl _ _ 1 1 siB w.heap.size w hBB7 (Nat.le_refl _) A N c' _ rfl hown67 A7 N7 c7 _ rfl hN7l.out hR7 (bvs_one _) (N + N7) ((B ++ FF).map bv) rfl (by rw [List.map_append]) (by omega) (by omega) ?_; intro A8 c8 w8 hown8 hB8 hg8 hl8; have m8 := grown_cell hg8 m0 (fun e => hwn7 _ e rfl))
        go_roundw
        case rel =>
          have hB78 : Turn ((Value.slice A N c').ownBlock.toList) w7 w8 := (Turn.refl _ _).grown hg8 (fun k hk => .inl (by rw [hk]; simp))
          have hS : ∀ x ∈ (Value.slice A N c').ownBlock.toList, x ∉ [w.heap.size + 1, w.heap.size, g] ∧ ¬ fp x := by
            intro x hx
            rw [Option.mem_toList] at hx
            exact ⟨hwn x hx, hnf.out x hx⟩
          have hsd : w.heap.size + 1 ∉ (Value.slice A N c').ownBlock.toList := fun h => (hS _ h).1 (by simp)
          have hsm : w.heap.size ∉ (Value.slice A N c').ownBlock.toList := fun h => (hS _ h).1 (by simp)
          have hsg : g ∉ (Value.slice A N c').ownBlock.toList := fun h => (hS _ h).1 (by simp)
          have hL8 := hL7.out.turn hB78 hsg
          rcases hl8 with hl8 | hl8
          · have hD8 := hD7.out.turn hB78 hsd hsm (fun x hx => .inr (hS x hx).2)
            exact ⟨fp, k + 1, ep, B ++ FF, A8, N + N7, c8, by omega, by omega, by go_num, rfl, by omega, by omega, rfl, hNl.out, hown8, by omega, hD8, hL8, hB8, fun gw e => hnf.out gw (hl8 ▸ e)⟩
          · have hlt8 := (hown8.lt _ hl8).2
            have hD8 := hD7.out.shrink hB78 hsd hsm (fun x hx => .inr (hS x hx).2) (Nat.le_refl _) hlt8
            exact ⟨_, k + 1, ep, B ++ FF, A8, N + N7, c8, by omega, by omega, by go_num, rfl, by omega, by omega, rfl, hNl.out, hown8, by omega, hD8, hL8, hB8, fun gw e hf => hf.2 (by rw [hl8] at e; injection e with e; exact e.symm)⟩
        case measure => simp [intOf]; omega
      · have happ' := happ.out
        rw [if_neg hmq] at happ'
        replace happ' := Lib.hid happ'
        have hz3 : w3.heap.size < (w3.alloc (.cells #[.int .i64 ep, .slice CA CN Cc] 32)).heap.size := by simp
        have k0 : (w3.alloc (.cells #[.int .i64 ep, .slice CA CN Cc] 32)).cell? ⟨w3.heap.size, 0, none⟩ = some (.int .i64 ep) := by go_simp
        have k1 : (w3.alloc (.cells #[.int .i64 ep, .slice CA CN Cc] 32)).cell? ⟨w3.heap.size, 1, none⟩ = some (.slice CA CN Cc) := by go_simp
        have hBB4 := hB3'.trans (hBW.mono hB3'.size)
        have hns : w3.heap.size ∉ [w.heap.size + 1, w.heap.size, g] := by simp; omega
        have hq : q = false ∨ (q = true ∧ ¬ last < ep) := by
          cases q
          · exact .inl rfl
          · exact .inr ⟨rfl, fun h => hmq (by simpa using h)⟩
        replace hmq := Lib.hid hmq
        replace hBB4 := Lib.hid hBB4
        replace hBW := Lib.hid hBW
        replace k0 := Lib.hid k0
        replace k1 := Lib.hid k1
        replace hq := Lib.hid hq
        go_wp2_with fail
        refine happ'.out.mono ?_
        rintro e w5 ⟨rfl, hD5, hL5, ht5⟩
        have j0 := ht5.cell k0.out hns
        have j1 := ht5.cell k1.out hns
        have hR5 := ht5.rd hR4 hCA'
        have hown5 := ht5.own hown4.out hwn
        have hBB5 := hBB4.out.trans (ht5.below hBB4.out.size (by simp; omega))
        replace hD5 := Lib.hid hD5
        replace hL5 := Lib.hid hL5
        replace ht5 := Lib.hid ht5
        replace hown5 := Lib.hid hown5
        replace hBB5 := Lib.hid hBB5
        go_wp2_with fail
        refine (hmy.out w5 hR5).mono ?_
        rintro e w6 ⟨rfl, hB6⟩
        have i0 := bel_cell hB6 (cell_lt j0) j0
        have i1 := bel_cell hB6 (cell_lt j1) j1
        have hown6 := own_ext hown5.out hB6
        have hD6 := hD5.out.ext hB6
        have hL6 : LogAt w6 g (w.heap.size + 1) logB last false := hL5.out.turn (S := []) (.ofBelow hB6) (by simp)
        have hBB6 := hBB5.out.trans (hB6.mono hBB5.out.size)
        replace hB6 := Lib.hid hB6
        replace hown6 := Lib.hid hown6
        replace hD6 := Lib.hid hD6
        replace hL6 := Lib.hid hL6
        replace hBB6 := Lib.hid hBB6
        rcases hq.out with rfl | ⟨rfl, hnl⟩
        all_goals
          go_wp2
          go_roundw
          (case rel => exact ⟨fp, k + 1, last, B, A, N, c', by omega, by omega, by go_num, rfl, by omega, by omega, rfl, hN.out, hown6.out, by omega, hD6.out, hL6.out, hBB6.out, hnf.out⟩)
          (case measure => simp [intOf]; omega)
    · have hBl : B.length ≤ 100000 := by have := hN.out; omega
      have hrr := hrd.out fp wr B hD.out hBl
      replace hrr := Lib.hid hrr
      have hx : ¬ (k < n) ∨ ¬ (k < 6) := by omega
      replace hlt := Lib.hid hlt
      by_cases hkn2 : k < n
      all_goals
        try (have hk44 : ¬ (k < 6) := by omega)
        clear hx
        go_wp2_with fail
        refine hrr.out.mono ?_
        rintro e w4 ⟨A4, n4, c4, rfl, hn4, hown4, hB4⟩
        have hc1 := fun w' (h : Below w4.heap.size w4 w') => conv_str (P := Try.prog) w' 29 9 5 Try.underlying29 Try.underlying5 Try.underlying9 A4 n4 c4 B ((Rd.of_own hown4).ext h) hn4.symm
        have hc2 := fun w' (h : Below w4.heap.size w4 w') => conv_str (P := Try.prog) w' 29 9 5 Try.underlying29 Try.underlying5 Try.underlying9 A N c' B (((Rd.of_own hown).ext hB4).ext h) hN.out.symm
        have hc10 := hc1 w4 (Below.refl _ _)
        have hc20 := hc2 w4 (Below.refl _ _)
        have hBB4 := hB.trans (hB4.mono hB.size)
        clear hc1 hc2
        replace hn4 := Lib.hid hn4
        replace hown4 := Lib.hid hown4
        replace hown := Lib.hid hown
        go_wp2_with fail
        refine (lives_c w4).mono ?_
        rintro e w5 ⟨rfl, hB5⟩
        go_wp2
        go_ret
        exact ⟨rfl, hBB4.trans (hB5.mono hBB4.size)⟩
end Go.Proofs.Ytkmmaijkidkoiaa
