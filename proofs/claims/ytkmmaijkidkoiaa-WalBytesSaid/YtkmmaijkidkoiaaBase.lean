/- The words that all walks of this claim use: bytes as values, a row that is read, a row that is owned, and one law on append. No program in sight. -/
import Derived.WalkKit
import Derived.WalkSpells
import Derived.WalkLawsBesides
import Derived.Maps.AppendAt
import Derived.Lib.Hide
import Derived.Lib.AppendStr
import Derived.Lib.ConvBytes
import Derived.Deep.QuietTactic
import Derived.BigQuiet
import Derived.KernelRfl
namespace Go.Proofs.Ytkmmaijkidkoiaa
open Go Go.RowKit

/-- A byte as a value. -/
def bv (c : UInt8) : Value := .int .u8 (c.toNat : Int)
/-- An int as a value. -/
def iv (n : Int) : Value := .int .i64 n

/-- The cells cs can be read from A on. -/
def Rd (w : World) (A : Option Addr) (cs : List Value) : Prop := cs = [] ∨ ∃ b o, A = some ⟨b, o, none⟩ ∧ ∀ j u, cs[j]? = some u → w.cell? ⟨b, o + j, none⟩ = some u

theorem add_lit (b o n : Nat) : (⟨b, o, none⟩ : Addr).add n = ⟨b, o + n, none⟩ := by unfold Addr.add; split <;> simp_all

theorem Rd.nil (w : World) (A : Option Addr) : Rd w A [] := .inl rfl
theorem cell_lt {w : World} {a : Addr} {v : Value} (h : w.cell? a = some v) : a.block < w.heap.size := World.block_lt_of_cell? w a h
theorem Rd.ext {w w' : World} {A : Option Addr} {cs : List Value} (h : Rd w A cs) (hb : Below w.heap.size w w') : Rd w' A cs := by
  rcases h with h | ⟨b, o, hA, hc⟩
  · exact .inl h
  · exact .inr ⟨b, o, hA, fun j u hu => (hb.cell (p := ⟨b, o + j, none⟩) (cell_lt (hc j u hu))).trans (hc j u hu)⟩
theorem Rd.drew {w : World} {A : Option Addr} {cs : List Value} (h : Rd w A cs) : Rd w.drew A cs := h
theorem Rd.drewN {w : World} {A : Option Addr} {cs : List Value} (h : Rd w A cs) (n : Nat) : Rd (w.drewN n) A cs := h
theorem Rd.bel {w w' : World} {b o B : Nat} {cs : List Value} (h : Rd w (some ⟨b, o, none⟩) cs) (hb : Below B w w') (hlt : b < B) : Rd w' (some ⟨b, o, none⟩) cs := by
  rcases h with h | ⟨b', o', hA, hc⟩
  · exact .inl h
  · injection hA with hA
    injection hA with hA1 hA2
    subst hA1 hA2
    exact .inr ⟨b, o, rfl, fun j u hu => (hb.cell (p := ⟨b, o + j, none⟩) hlt).trans (hc j u hu)⟩
theorem bel_cell {w w' : World} {B b o : Nat} {u : Value} (hb : Below B w w') (hlt : b < B) (h : w.cell? ⟨b, o, none⟩ = some u) : w'.cell? ⟨b, o, none⟩ = some u := (hb.cell (p := ⟨b, o, none⟩) hlt).trans h
theorem Rd.at_ {w : World} {A : Option Addr} {cs : List Value} (h : Rd w A cs) (hn : cs ≠ []) : ∃ b o, A = some ⟨b, o, none⟩ ∧ b < w.heap.size ∧ ∀ j u, cs[j]? = some u → w.cell? ⟨b, o + j, none⟩ = some u := by
  rcases h with h | ⟨b, o, hA, hc⟩
  · exact absurd h hn
  · refine ⟨b, o, hA, ?_, hc⟩
    have h0 : cs[0]? = some (cs[0]'(by cases cs <;> simp_all)) := List.getElem?_eq_getElem _
    exact cell_lt (hc 0 _ h0)
theorem Rd.of_own {w : World} {base n c : Nat} {e : TypeId} {size : Nat} {A : Option Addr} {cs : List Value} (h : w.ownsRow base e size (.slice A n c) n cs) : Rd w A cs := by
  by_cases h0 : cs = []
  · exact .inl h0
  · rcases h.2 with ⟨hv, hn⟩ | ⟨g, cap, cur, hv, hr⟩
    · subst hn
      have := h.1
      simp at this
      exact absurd this h0
    · injection hv with hA
      subst hA
      refine .inr ⟨g, 0, rfl, fun j u hu => ?_⟩
      have hc := h.cells (g := g) rfl j u hu
      rwa [add_lit] at hc
/-- A block that the call has just made. -/
theorem Rd.new (w : World) (cs : List Value) (t : TypeId) : Rd (w.alloc (.cells cs.toArray t)) (some ⟨w.heap.size, 0, none⟩) cs := by
  refine .inr ⟨w.heap.size, 0, rfl, fun j u hu => ?_⟩
  rw [cell_of_row _ _ (0 + j) _ _ _ (heap_alloc_new w _)]
  simpa using hu
theorem Rd.new1 (w : World) (v v' : Value) (t : TypeId) (h : v = v') : Rd (w.alloc (.cells #[v] t)) (some ⟨w.heap.size, 0, none⟩) [v'] := by
  subst h
  exact Rd.new w [v] t
theorem Rd.newAt (w : World) (n : Nat) (hn : w.heap.size = n) (cs : List Value) (t : TypeId) : Rd (w.alloc (.cells cs.toArray t)) (some ⟨n, 0, none⟩) cs := by
  subst hn
  exact Rd.new w cs t
theorem Rd.take {w : World} {A : Option Addr} {cs : List Value} (h : Rd w A cs) (n : Nat) : Rd w A (cs.take n) := by
  rcases h with h | ⟨b, o, hA, hc⟩
  · exact .inl (by simp [h])
  · exact .inr ⟨b, o, hA, fun j u hu => hc j u (by rw [List.getElem?_take] at hu; split at hu <;> simp_all)⟩

/-- One cell of a row of ints (bytes) that is read. -/
theorem Rd.int {w : World} {A : Option Addr} {ns : List Int} (h : Rd w A (ns.map iv)) {k : Nat} (hk : k < ns.length) : ∃ b o, A = some ⟨b, o, none⟩ ∧ w.cell? ⟨b, o + k, none⟩ = some (.int .i64 (ns.getD k 0)) := by
  obtain ⟨b, o, hA, _, hc⟩ := h.at_ (by intro e; have := congrArg List.length e; simp at this; subst this; simp at hk)
  exact ⟨b, o, hA, hc k _ (by simp [hk, iv])⟩
theorem Rd.byte {w : World} {A : Option Addr} {bs : List UInt8} (h : Rd w A (bs.map bv)) {k : Nat} (hk : k < bs.length) : ∃ b o, A = some ⟨b, o, none⟩ ∧ w.cell? ⟨b, o + k, none⟩ = some (.int .u8 ((bs.getD k 0).toNat : Int)) := by
  obtain ⟨b, o, hA, _, hc⟩ := h.at_ (by intro e; have := congrArg List.length e; simp at this; subst this; simp at hk)
  exact ⟨b, o, hA, hc k _ (by simp [hk, bv])⟩

/-- Where a cut begins. -/
def cutA (A : Option Addr) (c lo size : Nat) : Option Addr := if c = lo then A else A.map (·.add (lo * size))
theorem Rd.cut {w : World} {A : Option Addr} {n c lo size : Nat} {cs : List Value} (h : Rd w A cs) (hl : cs.length = n * size) (hn : n ≤ c) : Rd w (cutA A c lo size) (cs.drop (lo * size)) := by
  by_cases hd : cs.drop (lo * size) = []
  · exact .inl hd
  · have hlt : lo * size < n * size := by
      have : lo * size < cs.length := by simpa using hd
      omega
    have hlt' : lo < n := Nat.lt_of_mul_lt_mul_right hlt
    rcases h with h | ⟨b, o, rfl, hc⟩
    · subst h; simp at hd
    · refine .inr ⟨b, o + lo * size, by rw [cutA, if_neg (by omega)]; simp [add_lit], fun j u hu => ?_⟩
      rw [Nat.add_assoc]
      exact hc _ u (by rw [List.getElem?_drop] at hu; exact hu)
theorem run_sl_lo {P : Program} (w : World) (t e : TypeId) (size : Nat) (ht : P.underlying t = some (.slice e)) (hs : (P.info? e).map (·.size) = some size) (A : Option Addr) (n c lo : Nat) (x : Int) (hx : x = (lo : Int)) (h : lo ≤ n) :
    (Instr.slice t (.slice A n c) (some (.int .i64 x)) none none).run P w = .ok (.slice (cutA A c lo size) (n - lo) (c - lo)) w := by
  subst hx
  obtain ⟨i, hi, hz⟩ := Option.map_eq_some_iff.1 hs
  simp [Instr.slice, run_underlying ht, Instr.sliceBounds, run_sliceBound, sizeOf, typeInfo, hi, hz, cutA, h, go_sem]
theorem run_sl_hi {P : Program} (w : World) (t e : TypeId) (size : Nat) (ht : P.underlying t = some (.slice e)) (hs : (P.info? e).map (·.size) = some size) (A : Option Addr) (n c hi : Nat) (h : hi ≤ c) :
    (Instr.slice t (.slice A n c) none (some (.int .i64 (hi : Int))) none).run P w = .ok (.slice A hi c) w := by
  obtain ⟨i, hi', hz⟩ := Option.map_eq_some_iff.1 hs
  simp [Instr.slice, run_underlying ht, Instr.sliceBounds, run_sliceBound, sizeOf, typeInfo, hi', h, go_sem]
theorem run_sl_lohi {P : Program} (w : World) (t e : TypeId) (size : Nat) (ht : P.underlying t = some (.slice e)) (hs : (P.info? e).map (·.size) = some size) (A : Option Addr) (n c lo hi : Nat) (x y : Int) (hx : x = (lo : Int)) (hy : y = (hi : Int)) (h : lo ≤ hi) (h' : hi ≤ c) :
    (Instr.slice t (.slice A n c) (some (.int .i64 x)) (some (.int .i64 y)) none).run P w = .ok (.slice (cutA A c lo size) (hi - lo) (c - lo)) w := by
  subst hx hy
  obtain ⟨i, hi', hz⟩ := Option.map_eq_some_iff.1 hs
  simp [Instr.slice, run_underlying ht, Instr.sliceBounds, run_sliceBound, sizeOf, typeInfo, hi', hz, h, h', cutA, go_sem]

/-- string(b) -/
theorem conv_str {P : Program} (w : World) (src dst e : TypeId) (hs : P.underlying src = some (.slice e)) (he : P.underlying e = some (.int .u8)) (hd : P.underlying dst = some .string)
    (A : Option Addr) (n c : Nat) (bs : List UInt8) (h : Rd w A (bs.map bv)) (hn : bs.length = n) : (convert src dst (.slice A n c)).run P w = .ok (.string ⟨bs.toArray⟩) w := by
  by_cases h0 : bs = []
  · subst h0
    obtain rfl : n = 0 := by simpa using hn.symm
    cases A with
    | none => exact run_convert_bytes_nil w src e hs he 0 c dst hd
    | some a =>
      rw [run_convert_bytes_string w src dst e _ 0 c hs he hd]
      simp [Conv.bytesToString, loadCells, loadCellsFrom]
      rfl
  · obtain ⟨b, o, rfl, _, hc⟩ := h.at_ (by simpa using h0)
    have hr := run_convert_bytes_arg (P := P) w src e hs he b o n c (bs.map fun x => (x.toNat : Int)) (by simpa using hn) (fun i hi => by
      have hlt : i < bs.length := by omega
      exact hc i _ (by simp [hlt, bv])) dst hd
    rw [hr]
    simp only [strOfNums, List.map_map]
    have : ((fun n : Int => UInt8.ofNat n.toNat) ∘ fun x : UInt8 => (x.toNat : Int)) = id := by
      funext x
      simp
    rw [this, List.map_id]

/-- []byte(s) -/
theorem conv_bytes {P : Program} (w : World) (src dst e : TypeId) (s : ByteArray) {u : TypeDesc} (hs : P.underlying src = some u) (hd : P.underlying dst = some (.slice e)) (he : P.underlying e = some (.int .u8)) :
    ∃ c W1, (convert src dst (.string s)).run P w = .ok (.slice (some ⟨w.heap.size, 0, none⟩) s.size c) W1 ∧ s.size ≤ c ∧ Rd W1 (some ⟨w.heap.size, 0, none⟩) (s.data.toList.map bv) ∧ Below w.heap.size w W1 := by
  refine ⟨_, _, Lib.run_convert_string_bytes w src dst e s hs hd he, grownCap_ge _ _ _ _, .inr ⟨_, _, rfl, fun j u hu => ?_⟩, ?_⟩
  · have hj : j < s.size := by
      have := (List.getElem?_eq_some_iff.1 hu).1
      simpa using this
    rw [Nat.zero_add, Lib.bytesWorld_cell w e s j hj]
    simp at hu
    obtain ⟨a, ha, rfl⟩ := hu
    simp [bv, List.getD_eq_getElem?_getD, ha]
  · exact ⟨rfl, rfl, rfl, by rw [Lib.bytesWorld_size]; omega, fun k hk => Lib.bytesWorld_at_old w e s k hk⟩

/-- Of a slice type: its element's type, cells and bytes. -/
structure SlInfo (P : Program) (t e : TypeId) (z : Value) (size bytes : Nat) : Prop where
  under : P.underlying t = some (.slice e)
  info : (P.info? e).map (fun i => (i.zero, i.size, i.bytes)) = some (some z, size, bytes)
  hz : z.cells.size = size
  pos : 0 < size

theorem own_slice {w : World} {base n : Nat} {e : TypeId} {size : Nat} {v : Value} {xs : List Value} (h : w.ownsRow base e size v n xs) : ∃ A c, v = .slice A n c := by
  rcases h.2 with ⟨rfl, rfl⟩ | ⟨g, cap, cur, rfl, _⟩
  · exact ⟨none, 0, rfl⟩
  · exact ⟨_, cap, rfl⟩
theorem own_le {w : World} {base n c : Nat} {e : TypeId} {size : Nat} {A : Option Addr} {xs : List Value} (h : w.ownsRow base e size (.slice A n c) n xs) : n ≤ c := by
  rcases h.2 with ⟨hv, hn⟩ | ⟨g, cap, cur, hv, _, _, hc, _⟩
  · injection hv with _ _ hc; omega
  · injection hv with _ _ hc; omega
theorem own_base {w : World} {base base' n : Nat} {e : TypeId} {size : Nat} {v : Value} {xs : List Value} (h : w.ownsRow base e size v n xs) (hb : base' ≤ base) : w.ownsRow base' e size v n xs := by
  refine ⟨h.1, ?_⟩
  rcases h.2 with h2 | ⟨g, cap, cur, hv, hg, r⟩
  · exact .inl h2
  · exact .inr ⟨g, cap, cur, hv, Nat.le_trans hb hg, r⟩
theorem own_ext {w w' : World} {base n : Nat} {e : TypeId} {size : Nat} {v : Value} {xs : List Value} (h : w.ownsRow base e size v n xs) (hb : Below w.heap.size w w') : w'.ownsRow base e size v n xs :=
  h.kept (row := none) ⟨hb.os, hb.tape, hb.output, hb.size, fun k hk _ => hb.block k hk⟩ (by cases v.ownBlock <;> simp)
theorem own_ne {w : World} {base n : Nat} {e : TypeId} {size : Nat} {v : Value} {xs : List Value} (h : w.ownsRow base e size v n xs) : v.ownBlock ≠ some w.heap.size := fun e => by have := (h.lt _ e).2; omega
theorem grown_cell {w w' : World} {row : Option Nat} (hg : w.grownBy w' row) {b o : Nat} {u : Value} (h : w.cell? ⟨b, o, none⟩ = some u) (hne : row ≠ some b) : w'.cell? ⟨b, o, none⟩ = some u := hg.cell h (fun e => hne e.symm)
theorem cell_alloc {w : World} {b o : Nat} {u : Value} (h : w.cell? ⟨b, o, none⟩ = some u) (ob : Obj) : (w.alloc ob).cell? ⟨b, o, none⟩ = some u := (World.cell?_alloc_lt _ _ _ (cell_lt h)).trans h
theorem ne_next {X Y : Option Nat} {W b : Nat} (h : X = Y ∨ X = some W) (hy : Y ≠ some b) (hb : b < W) : X ≠ some b := by
  rcases h with rfl | rfl
  · exact hy
  · intro e
    injection e with e
    omega
/-- A fresh block of cells as an owned row. -/
theorem own_new (w : World) (base : Nat) (e : TypeId) (size n : Nat) (cs : List Value) (hb : base ≤ w.heap.size) (hn : n ≤ maxLen) (hl : cs.length = n * size) :
    (w.alloc (.cells cs.toArray e)).ownsRow base e size (.slice (some ⟨w.heap.size, 0, none⟩) n n) n cs := by
  refine ⟨hl, .inr ⟨w.heap.size, n, cs.toArray, rfl, hb, heap_alloc_new w _, Nat.le_refl _, hn, by simpa using hl, ?_⟩⟩
  rw [← hl]
  simp

section
variable {P : Program}
theorem run_append_nil' (w : World) (base : Nat) (t ty e : TypeId) (i : TypeInfo) (size : Nat) (ht : P.underlying t = some (.slice e)) (hi : P.info? e = some i)
    (v : Value) (n : Nat) (xs : List Value) (hown : w.ownsRow base e size v n xs) (A : Option Addr) (c : Nat) : (Builtin.append_ #[t, t] ty #[v, .slice A 0 c]).run P w = .ok v w := by
  rcases hown.2 with ⟨rfl, rfl⟩ | ⟨g, cap, cur, rfl, _, _, hnc, _⟩
  · cases A <;> simp [Builtin.append_, run_underlying ht, sizeOf, typeInfo, hi, Builtin.lenOf, Builtin.firstCells, loadCells, loadCellsFrom]
  · cases A <;> simp [Builtin.append_, run_underlying ht, sizeOf, typeInfo, hi, Builtin.lenOf, Builtin.firstCells, hnc, storeCells, loadCells, loadCellsFrom]

theorem run_append_any (w : World) (base : Nat) (t ty e : TypeId) (z : Value) (size bytes : Nat) (hs : SlInfo P t e z size bytes)
    (v : Value) (n : Nat) (xs : List Value) (hown : w.ownsRow base e size v n xs)
    (A : Option Addr) (m c : Nat) (news : List Value) (hl : news.length = m * size) (hr : Rd w A news) (h1 : ∀ u ∈ news, u.oneCell' = true)
    (h63 : n + m ≤ maxLen) (hbytes : (n + m) * bytes ≤ 140737488355328) (hbase : base ≤ w.heap.size) :
    ∃ v' w', (Builtin.append_ #[t, t] ty #[v, .slice A m c]).run P w = .ok v' w' ∧ w'.ownsRow base e size v' (n + m) (xs ++ news) ∧ w.grownBy w' v.ownBlock ∧
      (v'.ownBlock = v.ownBlock ∨ v'.ownBlock = some w.heap.size) := by
  obtain ⟨i0, hi, hzz⟩ := Option.map_eq_some_iff.1 hs.info
  simp only [Prod.mk.injEq] at hzz
  obtain ⟨hz0, hz1, hz2⟩ := hzz
  rcases Nat.eq_zero_or_pos m with h0 | h0
  · subst h0
    have hn : news = [] := List.eq_nil_of_length_eq_zero (by simpa using hl)
    subst hn
    exact ⟨v, w, run_append_nil' w base t ty e i0 size hs.under hi v n xs hown A c, by simpa using hown, ⟨rfl, rfl, rfl, Nat.le_refl _, fun _ _ _ => rfl⟩, .inl rfl⟩
  · rcases hr with hr | ⟨b, o, rfl, hc⟩
    · exfalso
      subst hr
      have hp := Nat.mul_pos h0 hs.pos
      simp at hl
      omega
    · obtain ⟨v', w', hrun, h2, h3, _, h5⟩ := run_append_own_at (P := P) w base t ty e i0 z size bytes hs.under hi hz0 hz1 hz2 hs.hz hs.pos v n xs hown ⟨b, o, none⟩ m c news hl (fun j u hu => by rw [add_lit]; exact hc j u hu) h1 h63 hbytes hbase
      exact ⟨v', w', hrun, h2, h3, h5⟩

/-- append at an operation of a plain region: the row that is appended to is the call's own; what is appended is read from anywhere, nil let in. -/
theorem wl_append {ops : Array Oper} {rest : List Oper} {o : Oper} {a : Act} {Q : Exit → Act → World → Prop} {w : World} (hgd : o.guard = none) (s x : Operand) (t : TypeId)
    (ho : o.op = .call { callee := .builtin .append, args := #[s, x], argTypes := #[t, t] })
    (e : TypeId) (z : Value) (size bytes : Nat) (hs : SlInfo P t e z size bytes) (base : Nat) (w0 : World) (HB : Below base w0 w) (hbase : base ≤ w0.heap.size)
    (A : Option Addr) (n c : Nat) (xs : List Value) (hsl : a.eval s = .slice A n c) (hown : w.ownsRow base e size (.slice A n c) n xs)
    (B : Option Addr) (m d : Nat) (news : List Value) (hx : a.eval x = .slice B m d) (hl : news.length = m * size) (hr : Rd w B news) (h1 : ∀ u ∈ news, u.oneCell' = true)
    (N : Nat) (ys : List Value) (hN : n + m = N) (hys : xs ++ news = ys) (hbytes : N * bytes ≤ 140737488355328) (h63 : N ≤ 9223372036854775807)
    (h : ∀ A' c' w', w'.ownsRow base e size (.slice A' N c') N ys → Below base w0 w' → w.grownBy w' (Value.slice A n c).ownBlock →
      ((Value.slice A' N c').ownBlock = (Value.slice A n c).ownBlock ∨ (Value.slice A' N c').ownBlock = some w.heap.size) → wpList P ops Q rest (a.put o.dst (.slice A' N c')) w') :
    wpList P ops Q (o :: rest) a w := by
  subst hN
  subst hys
  refine wpList_plain hgd fun K hK => ?_
  obtain ⟨v', w', hrun, h2, h3, h4⟩ := run_append_any (P := P) w base t o.type e z size bytes hs _ n xs hown B m d news hl hr h1 (by simp only [maxLen]; exact h63) hbytes (Nat.le_trans hbase HB.size)
  obtain ⟨A', c', rfl⟩ := own_slice h2
  unfold Oper.wp execOp
  simp only [ho, resolve, invoke, builtin, Sem.run_bind, Sem.run_pure, Result.andThen_ok, List.map_toArray, List.map_cons, List.map_nil, hsl, hx, hrun]
  exact hK _ _ (h A' c' w' h2 (HB.grown h3 (Nat.le_trans hbase HB.size) (fun k hk => (hown.lt k hk).1)) h3 h4)

/-- append(v, s...), s a string. -/
theorem wl_appendS {ops : Array Oper} {rest : List Oper} {o : Oper} {a : Act} {Q : Exit → Act → World → Prop} {w : World} (hgd : o.guard = none) (s x : Operand) (t u : TypeId)
    (ho : o.op = .call { callee := .builtin .append, args := #[s, x], argTypes := #[t, u] })
    (e : TypeId) (hs : SlInfo P t e (.int .u8 0) 1 1) (hu : P.underlying u = some .string) (base : Nat) (w0 : World) (HB : Below base w0 w) (hbase : base ≤ w0.heap.size)
    (A : Option Addr) (n c : Nat) (xs : List Value) (hsl : a.eval s = .slice A n c) (hown : w.ownsRow base e 1 (.slice A n c) n xs)
    (str : ByteArray) (hx : a.eval x = .string str)
    (N : Nat) (ys : List Value) (hN : n + str.size = N) (hys : xs ++ str.data.toList.map bv = ys) (hbytes : N ≤ 140737488355328)
    (h : ∀ A' c' w', w'.ownsRow base e 1 (.slice A' N c') N ys → Below base w0 w' → w.grownBy w' (Value.slice A n c).ownBlock → wpList P ops Q rest (a.put o.dst (.slice A' N c')) w') :
    wpList P ops Q (o :: rest) a w := by
  subst hN
  subst hys
  obtain ⟨i0, hi, hzz⟩ := Option.map_eq_some_iff.1 hs.info
  simp only [Prod.mk.injEq] at hzz
  obtain ⟨hz0, hz1, hz2⟩ := hzz
  refine Lib.wpList_append_own_string w hgd s x t u ho base e i0 hs.under hu hi hz0 hz1 hz2 _ n xs hsl hown str hx (by simp only [maxLen]; omega) hbytes (Nat.le_trans hbase HB.size) ?_
  intro v' w' hown' hg _
  obtain ⟨A', c', rfl⟩ := own_slice hown'
  exact h A' c' w' hown' (HB.grown hg (Nat.le_trans hbase HB.size) (fun k hk => (hown.lt k hk).1)) hg
end
end Go.Proofs.Ytkmmaijkidkoiaa
