/- The disk: what a deed does. -/
import Derived.Test.YtkmmaijkidkoiaaDskF
import Derived.Deep.RegionLaw
import Derived.StillTailTactics
namespace Go.Proofs.Ytkmmaijkidkoiaa
open Go Go.RowKit
variable {fp : Nat → Prop}

theorem Dk.Ok.put {D : Dk} (h : D.Ok) (x : FE) (hu : D.F.used + x.bs.length ≤ 16777216 + (D.F.get x.nm).bs.length) (hl : D.F.has x.nm = true ∨ D.F.length < 400) (hs : x.safe ≤ x.bs.length) : Dk.Ok ⟨D.F.put x, D.q, D.left, D.down⟩ := by
  have h1 := D.F.put_used x h.apart
  have h2 := D.F.put_len x
  have h3 := h.len
  refine ⟨h.q0, h.q1, h.l0, h.l1, by show (D.F.put x).used ≤ _; omega, ?_, D.F.put_apart h.apart x, ?_⟩
  · show (D.F.put x).length ≤ 400
    rcases hl with hl | hl
    · exact Nat.le_trans (Files.put_len' hl) h3
    · omega
  · intro f hf
    rcases mem_insF.1 hf with rfl | hf
    · exact hs
    · exact h.safe f (List.mem_filter.1 hf).1
theorem Dk.Ok.del {D : Dk} (h : D.Ok) (k : List UInt8) : Dk.Ok ⟨D.F.del k, D.q, D.left, D.down⟩ := by
  have h1 := D.F.del_used k h.apart
  have h2 := h.used
  exact ⟨h.q0, h.q1, h.l0, h.l1, by show (D.F.del k).used ≤ _; omega, Nat.le_trans (D.F.del_len k) h.len, D.F.del_apart h.apart k, fun f hf => h.safe f (List.mem_filter.1 hf).1⟩

theorem ownsMap_size {H : Type} {P : Program} {k : TypeId} {R : Value → Option (DataW H × List MemPlace)} {w : World} {b n : Nat} {es : List (Lit × DataW H)} (h : w.ownsMap P k R b n (.map es)) : w.ownsMap P k R b es.length (.map es) := by
  obtain ⟨ms, cl, hb, F, hs, hD⟩ := h
  refine ⟨ms, cl, hb, F, ?_, hD⟩
  injection hD with hD
  rw [hD, length_sorted]
  simp

/-- A file is put. -/
theorem DiskAt.putRun {w : World} {d m : Nat} {D : Dk} (h : DiskAt fp w d m D) (s : ByteArray) (hs : s.size ≤ 1099511627776) (v : Value) (bs : List UInt8) (safe : Nat) (hv : FileRep fp w v bs safe)
   (hu : D.F.used + bs.length ≤ 16777216 + (D.F.get s.data.toList).bs.length) (hl : D.F.has s.data.toList = true ∨ D.F.length < 400) (hsf : safe ≤ bs.length) :
   ∃ w', (Instr.mapUpdate 44 (.map (some m)) (.string s) v).run Try.prog w = .ok () w' ∧ DiskAt fp w' d m ⟨D.F.put ⟨s.data.toList, bs, safe⟩, D.q, D.left, D.down⟩ ∧ Turn [d, m] w w' := by
  obtain ⟨es, h1, h2⟩ := h.files
  have hlen := h.ok.len
  obtain ⟨w', hrun, hown, hturn⟩ := h1.store strK Try.underlying44 (by simp only [maxLen]; omega) (skey s (by omega)) (val := v) (d := .held v) (ps := []) rfl
  have ht : Turn [d, m] w w' := (Turn.refl _ _).grown hturn.grown (fun k hk => .inl (by injection hk with hk; simp [hk]))
  obtain ⟨es', he, hr⟩ := Reps.put (k := s.data.toList) hv h2
  have hr' := hr.turn ht h.nb
  rw [he] at hown
  have hown' := ownsMap_size hown
  rw [hr.length] at hown'
  refine ⟨w', hrun, ⟨h.ok.put _ hu hl hsf, fun x hx => h.up x (Nat.le_trans ht.size hx), ?_, es', hown', hr'⟩, ht⟩
  have hne := h.ne
  exact h.row.kept hturn.grown (.inr (by simp [Value.ownBlock, hne]))
/-- A file is taken away. -/
theorem DiskAt.delRun {w : World} {d m : Nat} {D : Dk} (h : DiskAt fp w d m D) (s : ByteArray) (hs : s.size ≤ 1099511627776) (ty : TypeId) :
   ∃ w', (Builtin.delete_ #[44, 9] ty #[.map (some m), .string s]).run Try.prog w = .ok (.tuple #[]) w' ∧ DiskAt fp w' d m ⟨D.F.del s.data.toList, D.q, D.left, D.down⟩ ∧ Turn [d, m] w w' := by
  obtain ⟨es, h1, h2⟩ := h.files
  obtain ⟨w', hrun, hown, hturn⟩ := h1.drop strK Try.underlying44 (skey s (by omega)) ty
  have ht : Turn [d, m] w w' := (Turn.refl _ _).grown hturn.grown (fun k hk => .inl (by injection hk with hk; simp [hk]))
  have hr := Reps.del (k := s.data.toList) h2
  have hr' := hr.turn ht h.nb
  have hown' := ownsMap_size hown
  have hl : (es.filter fun p => !p.1.sameKey (.string s.data.toList)).length = (D.F.del s.data.toList).length := hr.length
  rw [hl] at hown'
  refine ⟨w', hrun, ⟨h.ok.del _, fun x hx => h.up x (Nat.le_trans ht.size hx), ?_, _, hown', hr'⟩, ht⟩
  have hne := h.ne
  exact h.row.kept hturn.grown (.inr (by simp [Value.ownBlock, hne]))
theorem DiskAt.drew {w : World} {d m : Nat} {D : Dk} (h : DiskAt fp w d m D) : DiskAt fp w.drew d m D := h.ext (Below.refl _ _).drew

set_option maxRecDepth 100000 in
set_option maxHeartbeats 1000000 in
theorem create1_c (d m bd bn : Nat) (D : Dk) (s : ByteArray) (w : World) (h : DiskAt fp w d m D) (hs : s.size ≤ 1099511627776) (gd : w.cell? ⟨bd, 0, none⟩ = some (.pointer (some ⟨d, 0, none⟩))) (gn : w.cell? ⟨bn, 0, none⟩ = some (.string s)) (hh : D.F.has s.data.toList = false) (hl : D.F.length < 400) :
   Calls Try.prog 70 #[.pointer (some ⟨bd, 0, none⟩), .pointer (some ⟨bn, 0, none⟩)] w fun e w' => e = .returned (.tuple #[]) ∧ DiskAt fp w' d m ⟨D.F.put ⟨s.data.toList, [], 0⟩, D.q, D.left, D.down⟩ ∧ Turn [d, m] w w' := by
  have c0 := h.c0
  obtain ⟨w1, hrun, h1, ht⟩ := h.drew.putRun s hs file0 [] 0 ⟨none, 0, 0, rfl, rfl, Nat.le_refl _, .nil _ _, fun g o hA => by simp at hA⟩ (by have := h.ok.used; simp; omega) (.inr hl) (Nat.le_refl _)
  replace h1 := Lib.hid h1
  have ht' : Turn [d, m] w w1 := ((Turn.refl _ _).drew).trans ht
  replace ht' := Lib.hid ht'
  clear ht h
  unfold file0 at hrun
  go_enter Try.func70, Try.ntmps70
  go_wp2
  go_region
  all_goals go_wp2
  all_goals go_end0
  all_goals exact ⟨rfl, h1.out, ht'.out⟩

theorem run_field0 (w : World) (A : Option Addr) (n c : Nat) (x : Int) : (Instr.field 67 (.agg #[.slice A n c, .int .i64 x]) 0).run Try.prog w = .ok (.slice A n c) w := by kernel_rfl
theorem run_field1 (w : World) (A : Option Addr) (n c : Nat) (x : Int) : (Instr.field 67 (.agg #[.slice A n c, .int .i64 x]) 1).run Try.prog w = .ok (.int .i64 x) w := by kernel_rfl

/-- delete, as one step of a region that draws. -/
theorem step_delete_run {P : Program} {ops : Array Oper} {o : Oper} {a : Act} {w : World} {K : Act → World → Prop} {Q : Exit → Act → World → Prop} {E : Prop}
    (hg : o.guard = none) (s x : Operand) (t u : TypeId) (hop : o.op = Op.call { callee := Callee.builtin Builtin.delete, args := #[s, x], argTypes := #[t, u] })
    (vs vx : Value) (hs : a.eval s = vs) (hx : a.eval x = vx) (w' : World) (hrun : (Builtin.delete_ #[t, u] o.type #[vs, vx]).run P w = .ok (.tuple #[]) w') (hK : K (a.put o.dst (.tuple #[])) w') :
    if Region.wanted o (yielded ops a.tmps) = true then Oper.wp P o a w K Q else E := by
  have hw : Region.wanted o (yielded ops a.tmps) = true := by simp [Region.wanted, hg]
  rw [if_pos hw]
  unfold Oper.wp
  simp [execOp, hop, resolve, invoke, builtin, hs, hx, hrun, Result.andThen]
  exact hK

set_option maxRecDepth 100000 in
set_option maxHeartbeats 1000000 in
theorem remove1_c (d m bd bn : Nat) (D : Dk) (s : ByteArray) (w : World) (h : DiskAt fp w d m D) (hs : s.size ≤ 1099511627776) (gd : w.cell? ⟨bd, 0, none⟩ = some (.pointer (some ⟨d, 0, none⟩))) (gn : w.cell? ⟨bn, 0, none⟩ = some (.string s)) :
   Calls Try.prog 68 #[.pointer (some ⟨bd, 0, none⟩), .pointer (some ⟨bn, 0, none⟩)] w fun e w' => e = .returned (.tuple #[]) ∧ DiskAt fp w' d m ⟨D.F.del s.data.toList, D.q, D.left, D.down⟩ ∧ Turn [d, m] w w' := by
  have c0 := h.c0
  have hd := fun ty => h.drew.delRun s hs ty
  replace hd := Lib.hid hd
  replace h := Lib.hid h
  go_enter Try.func68, Try.ntmps68
  go_wp2
  go_region_law ((obtain ⟨w1, hrun, h1, ht⟩ := hd.out 0; refine step_delete_run (by rfl) _ _ 44 9 (by rfl) _ _ (by rfl) (by rfl) w1 hrun ?_; replace h1 := Lib.hid h1; replace ht := Lib.hid ht; clear hrun))
  all_goals go_wp2
  all_goals go_end0
  all_goals exact ⟨rfl, h1.out, ((Turn.refl _ _).drew).trans ht.out⟩

set_option maxRecDepth 100000 in
set_option maxHeartbeats 1000000 in
theorem sync1_c (d m bd bn : Nat) (D : Dk) (s : ByteArray) (w : World) (h : DiskAt fp w d m D) (hs : s.size ≤ 1099511627776) (gd : w.cell? ⟨bd, 0, none⟩ = some (.pointer (some ⟨d, 0, none⟩))) (gn : w.cell? ⟨bn, 0, none⟩ = some (.string s)) (hh : D.F.has s.data.toList = true) :
   Calls Try.prog 54 #[.pointer (some ⟨bd, 0, none⟩), .pointer (some ⟨bn, 0, none⟩)] w fun e w' => e = .returned (.tuple #[]) ∧ DiskAt fp w' d m ⟨D.F.put ⟨s.data.toList, (D.F.get s.data.toList).bs, (D.F.get s.data.toList).bs.length⟩, D.q, D.left, D.down⟩ ∧ Turn [d, m] w w' := by
  have c0 := h.c0
  obtain ⟨es, v, hown, hat, _, A, n, c, rfl, hln, hrest⟩ := h.drew.look s.data.toList
  have hlk := run_look1 w.drew 44 9 67 strK Try.underlying44 (zero_file _) m _ _ hown (.string s) _ (skey s (by omega)) _ hat
  obtain ⟨w1, hrun, h1, ht⟩ := h.drew.putRun s hs (.agg #[.slice A n c, .int .i64 (n : Int)]) (D.F.get s.data.toList).bs (D.F.get s.data.toList).bs.length ⟨A, n, c, by rw [hln], hln, hrest⟩ (by have := h.ok.used; show _ ≤ _ + _; simpa using this) (.inl hh) (Nat.le_refl _)
  have ht' : Turn [d, m] w w1 := ((Turn.refl _ _).drew).trans ht
  replace h1 := Lib.hid h1
  replace ht' := Lib.hid ht'
  clear ht h hown hat hln hrest hh
  have hf0 := fun w => run_field0 w A n c ((D.F.get s.data.toList).safe : Int)
  go_enter Try.func54, Try.ntmps54
  go_wp2
  go_still_tail 21, (by kernel_rfl)

  all_goals go_wp2
  all_goals go_end0
  all_goals exact ⟨rfl, h1.out, ht'.out⟩
end Go.Proofs.Ytkmmaijkidkoiaa
