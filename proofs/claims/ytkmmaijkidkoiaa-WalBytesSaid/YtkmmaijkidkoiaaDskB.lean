/- The disk: its state, how it lies in memory; a file's name; is a file there; how many bytes there are. -/
import Derived.Test.YtkmmaijkidkoiaaDskA
import Derived.Lib.Bytealg
import Derived.Laws.Externs
namespace Go.Proofs.Ytkmmaijkidkoiaa
open Go Go.RowKit
open Go.Maps (Keyed)

/-- A disk's state. -/
structure Dk where
  F : Files
  q : Int
  left : Int
  down : Bool
structure Dk.Ok (D : Dk) : Prop where
  q0 : 0 ≤ D.q
  q1 : D.q ≤ 16777216
  l0 : -1 ≤ D.left
  l1 : D.left ≤ 9223372036854775807
  used : D.F.used ≤ 16777216
  len : D.F.length ≤ 400
  apart : D.F.Pairwise (fun p q => p.nm ≠ q.nm)
  safe : ∀ f ∈ D.F, f.safe ≤ f.bs.length

theorem strK : Keyed Try.prog 9 := Maps.string_keyed Try.underlying9
theorem skey (s : ByteArray) (h : s.size ≤ 9223372036854775807) : keyOf Try.prog 9 (.string s) = some (.string s.data.toList) := WideMaps.keyOf_string_mk Try.underlying9 (by simp only [maxLen]; exact h)
def file0 : Value := .agg #[.slice none 0 0, .int .i64 0]
theorem zero_file (w : World) : (zeroValue 67).run Try.prog w = .ok file0 w := by kernel_rfl

variable {fp : Nat → Prop}
/-- How a disk lies in memory: its struct in block d, its map in block m, its files' bytes in blocks that fp lets in, as are all that are still to come. -/
structure DiskAt (fp : Nat → Prop) (w : World) (d m : Nat) (D : Dk) : Prop where
  ok : D.Ok
  up : ∀ x, w.heap.size ≤ x → fp x
  row : w.ownsRow d 46 1 (.slice (some ⟨d, 0, none⟩) 4 4) 4 [.map (some m), .int .i64 D.q, .int .i64 D.left, .bool D.down]
  files : ∃ es, w.ownsMap Try.prog 9 anyE m D.F.length (.map es) ∧ Reps fp w es D.F

section
variable {w w' : World} {d m : Nat} {D : Dk}
theorem DiskAt.c0 (h : DiskAt fp w d m D) : w.cell? ⟨d, 0, none⟩ = some (.map (some m)) := h.row.cellAt 0 (by omega)
theorem DiskAt.c1 (h : DiskAt fp w d m D) : w.cell? ⟨d, 1, none⟩ = some (.int .i64 D.q) := h.row.cellAt 1 (by omega)
theorem DiskAt.c2 (h : DiskAt fp w d m D) : w.cell? ⟨d, 2, none⟩ = some (.int .i64 D.left) := h.row.cellAt 2 (by omega)
theorem DiskAt.c3 (h : DiskAt fp w d m D) : w.cell? ⟨d, 3, none⟩ = some (.bool D.down) := h.row.cellAt 3 (by omega)
theorem DiskAt.ltd (h : DiskAt fp w d m D) : d < w.heap.size := cell_lt h.c0
theorem DiskAt.ltm (h : DiskAt fp w d m D) : m < w.heap.size := by obtain ⟨es, h1, _⟩ := h.files; exact h1.lt
theorem DiskAt.ne (h : DiskAt fp w d m D) : d ≠ m := by
  intro e
  subst e
  obtain ⟨es, ⟨ms, cl, hb, _⟩, _⟩ := h.files
  have := h.c0
  simp [World.cell?, hb] at this
/-- What turns none of its two blocks, and no row of bytes, leaves it as it is. -/
theorem DiskAt.turn {S : List Nat} (h : DiskAt fp w d m D) (ht : Turn S w w') (hd : d ∉ S) (hm : m ∉ S) (hS : ∀ x ∈ S, NB w x ∨ ¬ fp x) : DiskAt fp w' d m D := by
  obtain ⟨es, h1, h2⟩ := h.files
  exact ⟨h.ok, fun x hx => h.up x (Nat.le_trans ht.size hx), ht.own h.row (fun g hg => by injection hg with hg; subst hg; exact hd), es, ht.map h1 hm, h2.turn ht hS⟩
theorem DiskAt.ext (h : DiskAt fp w d m D) (hb : Below w.heap.size w w') : DiskAt fp w' d m D := h.turn (S := []) (.ofBelow hb) (by simp) (by simp) (by simp)
theorem DiskAt.nb' (h : DiskAt fp w d m D) : ∀ x ∈ [d, m], NB w x := by
  intro x hx
  obtain ⟨es, ⟨ms, cl, hb, _⟩, _⟩ := h.files
  simp at hx
  rcases hx with rfl | rfl
  · exact NB.own h.row (by decide)
  · exact NB.map hb
theorem DiskAt.nb (h : DiskAt fp w d m D) : ∀ x ∈ [d, m], NB w x ∨ ¬ fp x := fun x hx => .inl (h.nb' x hx)
/-- A row of bytes is not the disk's. -/
theorem DiskAt.off (h : DiskAt fp w d m D) {g : Nat} {arr : Array Value} {fz : Nat × Nat} (hh : w.heap[g]? = some (.cells arr 5 fz)) : g ∉ [d, m] := fun hm => h.nb' g hm arr fz hh
/-- A block that is to come is no longer let in for a file's bytes. -/
theorem DiskAt.shrink {S : List Nat} (h : DiskAt fp w d m D) (ht : Turn S w w') (hd : d ∉ S) (hm : m ∉ S) (hS : ∀ x ∈ S, NB w x ∨ ¬ fp x) {g : Nat} (hg : w.heap.size ≤ g) (hlt : g < w'.heap.size) : DiskAt (fun x => fp x ∧ x ≠ g) w' d m D := by
  have h' := h.turn ht hd hm hS
  obtain ⟨es, h1, h2⟩ := h.files
  obtain ⟨es', h1', h2'⟩ := h'.files
  refine ⟨h.ok, fun x hx => ⟨h'.up x hx, by omega⟩, h'.row, es, ht.map h1 hm, ?_⟩
  have key : ∀ {es : List (Lit × DataW Value)} {F : Files}, Reps fp w es F → Reps (fun x => fp x ∧ x ≠ g) w es F := by
    intro es
    induction es with
    | nil => intro F; cases F with | nil => exact fun _ => trivial | cons a b => exact fun h => h
    | cons a es ih =>
      intro F
      obtain ⟨k, x⟩ := a
      cases F with
      | nil => exact fun h => h
      | cons f F =>
        rintro ⟨hk, ⟨v, hx, A, n, c, hv, hl, hc, hr, hd⟩, hrest⟩
        refine ⟨hk, ⟨v, hx, A, n, c, hv, hl, hc, hr, fun g' o hA => ?_⟩, ih hrest⟩
        obtain ⟨hf, arr, fz, hh⟩ := hd g' o hA
        have := (Array.getElem?_eq_some_iff.1 hh).1
        exact ⟨⟨hf, by omega⟩, arr, fz, hh⟩
  exact (key h2).turn ht (fun x hx => (hS x hx).imp id (fun hn hf => hn hf.1))
theorem DiskAt.offOwn (h : DiskAt fp w d m D) {base n : Nat} {v : Value} {xs : List Value} (ho : w.ownsRow base 5 1 v n xs) : ∀ g, v.ownBlock = some g → g ∉ [d, m] := by
  intro g hg
  rcases ho.2 with ⟨h', _⟩ | ⟨g', cap, cur, h', _, hh, _⟩
  · subst h'; simp [Value.ownBlock] at hg
  · subst h'
    simp [Value.ownBlock] at hg
    subst hg
    exact h.off hh
end

/-- A look-up, whatever the elements: with 'ok', and without. -/
theorem wl_look2 {P : Program} (w : World) {ops : Array Oper} {rest : List Oper} {o : Oper} {a : Act} {Q : Exit → Act → World → Prop} (hg : o.guard = none) (mo x : Operand) (t : TypeId) (hop : o.op = Op.lookup t mo x true)
    (k e : TypeId) (K : Keyed P k) (ht : P.underlying t = some (.map k e)) {z : Value} (hz : (zeroValue e).run P w = .ok z w) (b n : Nat) (D : DataW Value) (hm : a.eval mo = .map (some b)) (hown : w.ownsMap P k anyE b n D)
    (key : Value) (kl : Lit) (hx : a.eval x = key) (hkey : keyOf P k key = some kl) (v : Value) (hv : D.atKey kl (.held z) = .held v) (q : Bool) (hq : Maps.has D kl = q) (hK : wpList P ops Q rest (a.put o.dst (.tuple #[v, .bool q])) w) : wpList P ops Q (o :: rest) a w := by
  subst hq
  refine wpList_lookup_own_ok w hg mo x t hop k e K ht anyE hz (.held z) [] rfl b n D hm hown key kl hx hkey ?_
  intro v' ps hv'
  simp only [anyE, hv, Option.some.injEq, Prod.mk.injEq, DataW.held.injEq] at hv'
  rw [hv'.1]
  exact hK
theorem run_look1 {P : Program} (w : World) (t k e : TypeId) (K : Keyed P k) (ht : P.underlying t = some (.map k e)) {z : Value} (hz : (zeroValue e).run P w = .ok z w) (b n : Nat) (D : DataW Value) (hown : w.ownsMap P k anyE b n D)
    (key : Value) (kl : Lit) (hkey : keyOf P k key = some kl) (v : Value) (hv : D.atKey kl (.held z) = .held v) : (Instr.lookup t (.map (some b)) key false).run P w = .ok v w := by
  obtain ⟨v', ps, hrun, hr⟩ := hown.lookup K ht hz (R := anyE) (zd := .held z) (zp := []) rfl hkey
  simp only [anyE, hv, Option.some.injEq, Prod.mk.injEq, DataW.held.injEq] at hr
  rw [← hr.1]
  exact hrun

/-- What a look-up finds. -/
theorem DiskAt.look {w : World} {d m : Nat} {D : Dk} (h : DiskAt fp w d m D) (k : List UInt8) : ∃ es v, w.ownsMap Try.prog 9 anyE m D.F.length (.map es) ∧ (DataW.map es).atKey (.string k) (.held file0) = .held v ∧ Maps.has (.map es) (.string k) = D.F.has k ∧ FileRep fp w v (D.F.get k).bs (D.F.get k).safe := by
  obtain ⟨es, h1, h2⟩ := h.files
  cases hh : D.F.has k
  · refine ⟨es, file0, h1, ?_, by rw [h2.has, hh], ?_⟩
    · exact Maps.atKey_of_not_has (by rw [h2.has, hh]) _
    · have e : D.F.get k = ⟨k, [], 0⟩ := by
        unfold Files.get
        rw [List.find?_eq_none.2 (fun f hf => List.any_eq_false.1 hh f hf)]
        rfl
      rw [e]
      exact ⟨none, 0, 0, rfl, rfl, Nat.le_refl _, .nil _ _, fun g o hA => by simp at hA⟩
  · obtain ⟨v, h3, h4⟩ := h2.at_ (z := .held file0) hh
    exact ⟨es, v, h1, h3, by rw [h2.has, hh], h4⟩

set_option maxRecDepth 100000 in
set_option maxHeartbeats 1000000 in
theorem there_c (d m : Nat) (D : Dk) (s : ByteArray) (w : World) (h : DiskAt fp w d m D) (hs : s.size ≤ 1099511627776) :
   Calls Try.prog 30 #[.pointer (some ⟨d, 0, none⟩), .string s] w fun e w' => e = .returned (.int .i64 (if D.F.has s.data.toList then 0 else 8)) ∧ Below w.heap.size w w' := by
  obtain ⟨es, v, hown, hat, hh, A, n, c, rfl, hrest⟩ := h.look s.data.toList
  clear hrest
  have hkey := skey s (by omega)
  have c0 := h.c0
  have hq : ∀ b, D.F.has s.data.toList = b → (if D.F.has s.data.toList = true then (0 : Int) else 8) = if b then 0 else 8 := by intro b hb; rw [hb]
  replace hq := Lib.hid hq
  replace hkey := Lib.hid hkey
  replace hat := Lib.hid hat
  replace hh := Lib.hid hh
  cases hb : D.F.has s.data.toList
  all_goals
    rw [hb] at hh
    replace hb := Lib.hid hb
    go_enter Try.func30, Try.ntmps30
    go_wp2_with (at_lookup; refine wl_look2 _ rfl _ _ 44 rfl 9 67 strK Try.underlying44 (zero_file _) m _ _ rfl hown _ _ rfl hkey.out _ hat.out _ hh.out ?_)
    go_ret
    exact ⟨by simp, (Below.refl _ _).alloc (Nat.le_refl _) _⟩
end Go.Proofs.Ytkmmaijkidkoiaa
