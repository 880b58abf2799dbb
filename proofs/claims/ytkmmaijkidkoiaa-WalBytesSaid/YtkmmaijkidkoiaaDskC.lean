/- The disk: how many bytes there are, is the power there, a new disk, a file's name. -/
import Derived.Test.YtkmmaijkidkoiaaDskB
namespace Go.Proofs.Ytkmmaijkidkoiaa
open Go Go.RowKit
variable {fp : Nat → Prop}
open Go.Maps (Keyed)

theorem keyOf_str_inv {P : Program} {k : TypeId} (hk : P.underlying k = some .string) {key : Value} {kl : Lit} (h : keyOf P k key = some kl) : ∃ x : ByteArray, key = .string x ∧ kl = .string x.data.toList := by
  cases key <;> simp [keyOf, hk, mapKey] at h
  obtain ⟨_, rfl⟩ := h
  exact ⟨_, rfl, rfl⟩

/-- The step over a map with texts for keys, elements as they are. -/
theorem wl_next {P : Program} (w : World) {ops : Array Oper} {rest : List Oper} {o : Oper} {a : Act} {Q : Exit → Act → World → Prop} (hg : o.guard = none) (it : Operand) (hop : o.op = Op.next it false) (k : TypeId) (K : Keyed P k) (hk : P.underlying k = some .string)
    (b r n : Nat) (D : DataW Value) (left : Lit → Bool) (cnt : Nat) (hit : a.eval it = .pointer (some ⟨r, 0, none⟩)) (h : w.ranges P k anyE b r n D left cnt)
    (hDone : cnt = 0 → (∀ kl, left kl = false) → wpList P ops Q rest (a.put o.dst (.tuple #[.bool false])) w)
    (hMore : ∀ (x : ByteArray) (c : Value) (w' : World) (cnt' : Nat), left (.string x.data.toList) = true → (∀ zd, D.atKey (.string x.data.toList) zd = .held c) → w'.ranges P k anyE b r n D (fun z => left z && !z.sameKey (.string x.data.toList)) cnt' → cnt' < cnt →
      w.grownBy w' (some r) → w'.heap.size = w.heap.size → (Instr.entry (.pointer (some ⟨r, 0, none⟩))).run P w' = .ok (.tuple #[.string x, c]) w' → wpList P ops Q rest (a.put o.dst (.tuple #[.bool true, .string x, c])) w') :
    wpList P ops Q (o :: rest) a w := by
  refine wpList_plain hg fun K' hK' => ?_
  unfold Oper.wp
  rcases h.next K o.type with ⟨h0, hl, hrun⟩ | ⟨key, v, kl, y, w', cnt', hkey, hlk, hv, hat, hrun, hrg, hlt, hgr, hsz, hen⟩
  · simp [execOp, hop, hit, hrun, Result.andThen]
    exact hK' _ _ (hDone h0 hl)
  · obtain ⟨x, rfl, rfl⟩ := keyOf_str_inv hk hkey
    simp only [anyE, Option.some.injEq] at hv
    subst hv
    simp [execOp, hop, hit, hrun, Result.andThen]
    exact hK' _ _ (hMore x v w' cnt' hlk hat hrg hlt hgr hsz hen)

set_option maxRecDepth 100000 in
set_option maxHeartbeats 1000000 in
theorem used_c (d m : Nat) (D : Dk) (w : World) (h : DiskAt fp w d m D) :
   Calls Try.prog 46 #[.pointer (some ⟨d, 0, none⟩)] w fun e w' => e = .returned (.int .i64 (D.F.used : Int)) ∧ Below w.heap.size w w' := by
  obtain ⟨es, hown, hreps⟩ := h.files
  have c0 := h.c0
  have hu := h.ok.used
  have hap := h.ok.apart
  replace hap := Lib.hid hap
  replace h := Lib.hid h
  go_enter Try.func46, Try.ntmps46
  go_wp2_with (at_range; refine wpList_range_own _ rfl _ 44 rfl 9 67 strK Try.underlying44 _ m _ _ rfl hown ?_; intro w0 hrg0 hg0 hs0)
  go_frame
  replace hown := Lib.hid hown
  have hlt := h.out.ltm
  go_loopw [3] (fun n wr => ∃ left cnt, wr.ranges Try.prog 9 anyE m w.heap.size D.F.length (.map es) left cnt ∧ n = .int .i64 (usedL left D.F : Nat) ∧ Below w.heap.size w wr) (fun _ wr => wr.rangeLeft m w.heap.size)
  case atStart => exact ⟨_, _, hrg0, by rw [usedL_start _ _ (fun f hf => by rw [hreps.has]; exact List.any_eq_true.2 ⟨f, hf, by simp⟩)]; rfl, (Below.refl _ _).grown hg0 (Nat.le_refl _) (by simp)⟩
  case round =>
    obtain ⟨left, cnt, hrg, rfl, hB⟩ := hrel
    have hle := usedL_le D.F left
    go_wp2_with (at_next; refine wl_next _ rfl _ rfl 9 strK Try.underlying9 m w.heap.size _ _ _ _ rfl hrg ?_ ?_)
    · intro _ hl0
      go_wp2
      go_ret
      exact ⟨by rw [usedL_end _ _ hl0]; rfl, hB⟩
    · intro x c w1 cnt1 hlx hat hrg1 hlt1 hg1 hs1 hen
      have hh : D.F.has x.data.toList = true := by rw [← hreps.has]; exact Maps.has_true_of_atKey hat
      obtain ⟨v, hv, A, n, c', rfl, hln, hrest⟩ := hreps.at_ (z := .held file0) hh
      clear hrest
      rw [hat, DataW.held.injEq] at hv
      subst hv
      have hst := usedL_step hap.out hlx hh
      rw [hln] at hst
      have hle1 := usedL_le D.F (fun z => left z && !z.sameKey (.string x.data.toList))
      have hB1 := hB.grown hg1 (hB.size) (by intro k hk; injection hk with hk; omega)
      have hnum : n ≤ 16777216 := by omega
      replace hst := Lib.hid hst
      replace hat := Lib.hid hat
      replace hh := Lib.hid hh
      replace hln := Lib.hid hln
      generalize usedL left D.F = u0 at *
      go_wp2
      go_roundw
      case rel => exact ⟨_, _, hrg1.alloc _, by rw [hst.out]; rfl, hB1.alloc hB1.size _⟩
      case measure => rw [(hrg1.alloc _).left_eq, hrg.left_eq]; omega

set_option maxRecDepth 100000 in
set_option maxHeartbeats 1000000 in
theorem alive_c (d m : Nat) (D : Dk) (w : World) (h : DiskAt fp w d m D) :
   Calls Try.prog 18 #[.pointer (some ⟨d, 0, none⟩)] w fun e w' => e = .returned (.bool (!D.down)) ∧ w = w' := by
  have c3 := h.c3
  go_enter Try.func18, Try.ntmps18
  go_wp2
  go_ret
  exact ⟨rfl, rfl⟩

/-- A disk without files. -/
def dk0 (q : Int) : Dk := ⟨[], q, -1, false⟩
set_option maxRecDepth 100000 in
set_option maxHeartbeats 1000000 in
theorem dnew_c (q : Int) (w : World) (h0 : 0 ≤ q) (h1 : q ≤ 16777216) (hup : ∀ x, w.heap.size ≤ x → fp x) :
   Calls Try.prog 5 #[.int .i64 q] w fun e w' => e = .returned (.pointer (some ⟨w.heap.size + 1, 0, none⟩)) ∧ DiskAt fp w' (w.heap.size + 1) w.heap.size (dk0 q) ∧ Below w.heap.size w w' := by
  have hmm := @run_makeMap Try.prog
  go_enter Try.func5, Try.ntmps5
  go_wp2
  go_ret
  refine ⟨rfl, ⟨⟨h0, h1, by simp [dk0], by simp [dk0], by simp [dk0, Files.used], by simp [dk0], by simp [dk0], by simp [dk0]⟩, fun x hx => hup x (by simp at hx; omega), ?_, ?_⟩, ((Below.refl _ _).alloc (Nat.le_refl _) _).alloc (by simp) _⟩
  · have := own_new (w.alloc (.map #[] 0)) (w.heap.size + 1) 46 1 4 [.map (some w.heap.size), .int .i64 q, .int .i64 (-1), .bool false] (by simp) (by decide) rfl
    simpa [dk0] using this
  · exact ⟨[], (World.ownsMap_made w _ _ _).alloc _, trivial⟩

def signs : List UInt8 := [46, 45, 48, 49, 50, 51, 52, 53, 54, 55, 56, 57, 97, 98, 99, 100, 101, 102, 103, 104, 105, 106, 107, 108, 109, 110, 111, 112, 113, 114, 115, 116, 117, 118, 119, 120, 121, 122]
/-- May a file have this name? -/
def okName (l : List UInt8) : Bool := l.all (fun c => decide (0 ≤ Lib.indexByte signs c)) && !l.isEmpty && decide (l.length ≤ 20)
end Go.Proofs.Ytkmmaijkidkoiaa
