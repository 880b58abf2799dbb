/- The disk in memory: which blocks a call may turn; files as a list; how a map of files reads. -/
import Derived.Test.YtkmmaijkidkoiaaRcC
import Derived.Maps.RangeWalk
import Derived.Maps.OwnSet
import Derived.Maps.Ext
namespace Go.Proofs.Ytkmmaijkidkoiaa
open Go Go.RowKit
open Go.Maps (Keyed)

/-- Of the blocks that there were, those of S alone may have turned. -/
structure Turn (S : List Nat) (w w' : World) : Prop where
  os : w'.os = w.os
  tape : w'.tape = w.tape
  output : w'.output = w.output
  size : w.heap.size ≤ w'.heap.size
  block : ∀ k, k < w.heap.size → k ∉ S → w'.heap[k]? = w.heap[k]?

theorem Turn.refl (S : List Nat) (w : World) : Turn S w w := ⟨rfl, rfl, rfl, Nat.le_refl _, fun _ _ _ => rfl⟩
theorem Turn.trans {S : List Nat} {a b c : World} (h : Turn S a b) (k : Turn S b c) : Turn S a c :=
  ⟨k.os.trans h.os, k.tape.trans h.tape, k.output.trans h.output, Nat.le_trans h.size k.size, fun i hi hn => (k.block i (Nat.lt_of_lt_of_le hi h.size) hn).trans (h.block i hi hn)⟩
theorem Turn.mono {S S' : List Nat} {a b : World} (h : Turn S a b) (hs : ∀ x ∈ S, x ∈ S') : Turn S' a b := ⟨h.os, h.tape, h.output, h.size, fun k hk hn => h.block k hk (fun hm => hn (hs k hm))⟩
theorem Turn.ofBelow {S : List Nat} {a b : World} (h : Below a.heap.size a b) : Turn S a b := ⟨h.os, h.tape, h.output, h.size, fun k hk _ => h.block k hk⟩
theorem Turn.below {S : List Nat} {a b : World} (h : Turn S a b) {B : Nat} (hB : B ≤ a.heap.size) (hs : ∀ x ∈ S, B ≤ x) : Below B a b := ⟨h.os, h.tape, h.output, h.size, fun k hk => h.block k (by omega) (fun hm => by have := hs k hm; omega)⟩
theorem Turn.drew {S : List Nat} {a b : World} (h : Turn S a b) : Turn S a b.drew := ⟨h.os, h.tape, h.output, h.size, h.block⟩
theorem Turn.alloc {S : List Nat} {a b : World} (h : Turn S a b) (o : Obj) : Turn S a (b.alloc o) := h.trans (.ofBelow ((Below.refl _ _).alloc (Nat.le_refl _) o))
theorem Turn.setCell {S : List Nat} {a b : World} (h : Turn S a b) {p : Addr} (hp : p.block ∈ S) (u : Value) : Turn S a (b.setCell p u) :=
  h.trans ⟨rfl, rfl, rfl, by simp [World.setCell], fun k _ hn => Below.heap_setCell _ _ _ _ (fun e => hn (e ▸ hp))⟩
theorem Turn.grown {S : List Nat} {a b c : World} (h : Turn S a b) {row : Option Nat} (hg : b.grownBy c row) (hr : ∀ k, row = some k → k ∈ S ∨ a.heap.size ≤ k) : Turn S a c :=
  ⟨hg.os.trans h.os, hg.tape.trans h.tape, hg.output.trans h.output, Nat.le_trans h.size hg.size, fun k hk hn => (hg.block k (Nat.lt_of_lt_of_le hk h.size) (fun e => by rcases hr k e.symm with h1 | h1; exact hn h1; omega)).trans (h.block k hk hn)⟩
/-- A store into a block that is new. -/
theorem Turn.setNew {S : List Nat} {a b : World} (h : Turn S a b) {p : Addr} (hp : a.heap.size ≤ p.block) (u : Value) : Turn S a (b.setCell p u) :=
  ⟨h.os, h.tape, h.output, by have := h.size; simpa [World.setCell] using this, fun k hk hn => (Below.heap_setCell _ _ _ _ (by omega)).trans (h.block k hk hn)⟩
theorem Turn.cell {S : List Nat} {a b : World} (h : Turn S a b) {g j : Nat} {u : Value} (hc : a.cell? ⟨g, j, none⟩ = some u) (hn : g ∉ S) : b.cell? ⟨g, j, none⟩ = some u :=
  (World.cell?_of_block (w := a) (h.block g (cell_lt hc) hn)).trans hc
theorem Turn.own {S : List Nat} {a b : World} (h : Turn S a b) {base e size n : Nat} {v : Value} {xs : List Value} (ho : a.ownsRow base e size v n xs) (hn : ∀ g, v.ownBlock = some g → g ∉ S) : b.ownsRow base e size v n xs := by
  refine ⟨ho.1, ?_⟩
  rcases ho.2 with h2 | ⟨g, cap, cur, hv, hg, hh, r⟩
  · exact .inl h2
  · have hlt : g < a.heap.size := (Array.getElem?_eq_some_iff.1 hh).1
    exact .inr ⟨g, cap, cur, hv, hg, (h.block g hlt (hn g (by rw [hv]; rfl))).trans hh, r⟩
theorem Turn.rd {S : List Nat} {a b : World} (h : Turn S a b) {A : Option Addr} {cs : List Value} (hr : Rd a A cs) (hn : ∀ g o, A = some ⟨g, o, none⟩ → g ∉ S) : Rd b A cs := by
  rcases hr with hr | ⟨g, o, hA, hc⟩
  · exact .inl hr
  · exact .inr ⟨g, o, hA, fun j u hu => h.cell (hc j u hu) (hn g o hA)⟩
theorem Turn.map {H : Type} {S : List Nat} {a b : World} (h : Turn S a b) {P : Program} {k : TypeId} {R : Value → Option (DataW H × List MemPlace)} {m n : Nat} {D : DataW H} (ho : a.ownsMap P k R m n D) (hn : m ∉ S) : b.ownsMap P k R m n D := by
  have hlt := ho.lt
  obtain ⟨es, clock, hb, r⟩ := ho
  exact ⟨es, clock, (h.block m hlt hn).trans hb, r⟩

/-- A file: its name, its bytes, how many of them are safe. -/
structure FE where
  nm : List UInt8
  bs : List UInt8
  safe : Nat
abbrev Files := List FE
def Files.has (F : Files) (k : List UInt8) : Bool := F.any fun f => f.nm == k
def Files.get (F : Files) (k : List UInt8) : FE := (F.find? fun f => f.nm == k).getD ⟨k, [], 0⟩
def Files.del (F : Files) (k : List UInt8) : Files := F.filter fun f => !(f.nm == k)
def insF (x : FE) : Files → Files
  | [] => [x]
  | y :: r => if bytesBefore x.nm y.nm then x :: y :: r else y :: insF x r
def Files.put (F : Files) (x : FE) : Files := insF x (F.del x.nm)
def Files.used (F : Files) : Nat := (F.map fun f => f.bs.length).sum

/-- Any value, as it is. -/
def anyE (v : Value) : Option (DataW Value × List MemPlace) := some (.held v, [])

/-- Block x is no row of bytes. -/
def NB (w : World) (x : Nat) : Prop := ∀ arr fz, w.heap[x]? ≠ some (.cells arr 5 fz)
variable {fp : Nat → Prop}
/-- How a file lies in memory: its bytes are in a row of bytes, in a block that fp lets in. -/
def FileRep (fp : Nat → Prop) (w : World) (v : Value) (bs : List UInt8) (safe : Nat) : Prop :=
  ∃ A n c, v = .agg #[.slice A n c, .int .i64 (safe : Int)] ∧ bs.length = n ∧ n ≤ c ∧ Rd w A (bs.map bv) ∧ ∀ g o, A = some ⟨g, o, none⟩ → fp g ∧ ∃ arr fz, w.heap[g]? = some (.cells arr 5 fz)
def Reps (fp : Nat → Prop) (w : World) : List (Lit × DataW Value) → Files → Prop
  | [], [] => True
  | (k, x) :: es, f :: F => k = .string f.nm ∧ (∃ v, x = .held v ∧ FileRep fp w v f.bs f.safe) ∧ Reps fp w es F
  | _, _ => False

theorem NB.map {w : World} {m cl : Nat} {es : Array MapEntry} (h : w.heap[m]? = some (.map es cl)) : NB w m := by
  intro arr fz e
  rw [h] at e
  simp at e
theorem NB.own {w : World} {base e size g n c : Nat} {xs : List Value} (h : w.ownsRow base e size (.slice (some ⟨g, 0, none⟩) n c) n xs) (he : e ≠ 5) : NB w g := by
  intro arr fz e'
  rcases h.2 with ⟨h', _⟩ | ⟨g', cap, cur, h', _, hh, _⟩
  · simp at h'
  · simp only [Value.slice.injEq, Option.some.injEq, Addr.mk.injEq, and_true, true_and] at h'
    obtain ⟨rfl, rfl⟩ := h'
    rw [hh] at e'
    simp at e'
    exact he e'.2.1

section
variable {w w' : World}
theorem FileRep.turn {S : List Nat} {v : Value} {bs : List UInt8} {safe : Nat} (h : FileRep fp w v bs safe) (ht : Turn S w w') (hS : ∀ x ∈ S, NB w x ∨ ¬ fp x) : FileRep fp w' v bs safe := by
  obtain ⟨A, n, c, hv, hl, hc, hr, hd⟩ := h
  have hn : ∀ g o, A = some ⟨g, o, none⟩ → g ∉ S := fun g o hA hg => by
    obtain ⟨hf, arr, fz, hh⟩ := hd g o hA
    exact (hS g hg).elim (fun h => h arr fz hh) (fun h => h hf)
  refine ⟨A, n, c, hv, hl, hc, ht.rd hr hn, fun g o hA => ?_⟩
  obtain ⟨hf, arr, fz, hh⟩ := hd g o hA
  exact ⟨hf, arr, fz, (ht.block g (Array.getElem?_eq_some_iff.1 hh).1 (hn g o hA)).trans hh⟩
theorem FileRep.own {base n c : Nat} {A : Option Addr} {bs : List UInt8} {safe : Nat} (h : w.ownsRow base 5 1 (.slice A n c) n (bs.map bv)) (hf : ∀ x, base ≤ x → fp x) : FileRep fp w (.agg #[.slice A n c, .int .i64 (safe : Int)]) bs safe := by
  refine ⟨A, n, c, rfl, by simpa using h.1, own_le h, .of_own h, fun g o hA => ?_⟩
  rcases h.2 with ⟨h', _⟩ | ⟨g', cap, cur, h', hb, hh, _⟩
  · subst hA; simp at h'
  · subst hA
    simp only [Value.slice.injEq, Option.some.injEq, Addr.mk.injEq, and_true, true_and] at h'
    obtain ⟨⟨rfl, rfl⟩, rfl⟩ := h'
    exact ⟨hf _ hb, _, _, hh⟩
theorem Reps.turn {S : List Nat} (ht : Turn S w w') (hS : ∀ x ∈ S, NB w x ∨ ¬ fp x) : ∀ {es : List (Lit × DataW Value)} {F : Files}, Reps fp w es F → Reps fp w' es F
  | [], [], _ => trivial
  | [], _ :: _, h => h
  | _ :: _, [], h => h
  | (_, _) :: _, _ :: _, ⟨hk, ⟨v, hx, hv⟩, hr⟩ => ⟨hk, ⟨v, hx, hv.turn ht hS⟩, Reps.turn ht hS hr⟩
theorem Reps.length : ∀ {es : List (Lit × DataW Value)} {F : Files}, Reps fp w es F → es.length = F.length
  | [], [], _ => rfl
  | [], _ :: _, h => h.elim
  | _ :: _, [], h => h.elim
  | (_, _) :: _, _ :: _, ⟨_, _, hr⟩ => by simp [Reps.length hr]
theorem Reps.has {k : List UInt8} : ∀ {es : List (Lit × DataW Value)} {F : Files}, Reps fp w es F → Maps.has (.map es) (.string k) = F.has k
  | [], [], _ => rfl
  | [], _ :: _, h => h.elim
  | _ :: _, [], h => h.elim
  | (_, _) :: es, f :: F, ⟨hk, _, hr⟩ => by
    have := Reps.has (k := k) hr
    subst hk
    simp only [Maps.has_eq, Files.has, List.any_cons] at this ⊢
    rw [this]
    rfl
theorem Reps.at_ {k : List UInt8} {z : DataW Value} : ∀ {es : List (Lit × DataW Value)} {F : Files}, Reps fp w es F → F.has k = true → ∃ v, (DataW.map es).atKey (.string k) z = .held v ∧ FileRep fp w v (F.get k).bs (F.get k).safe
  | [], [], _, hh => by simp [Files.has] at hh
  | [], _ :: _, h, _ => h.elim
  | _ :: _, [], h, _ => h.elim
  | (_, _) :: es, f :: F, ⟨hk, ⟨v, hx, hv⟩, hr⟩, hh => by
    subst hk hx
    by_cases h : f.nm = k
    · subst h
      exact ⟨v, by simp [DataW.atKey, Lit.sameKey], by simpa [Files.get] using hv⟩
    · obtain ⟨v', h1, h2⟩ := Reps.at_ (k := k) (z := z) hr (by simpa [Files.has, h] using hh)
      refine ⟨v', ?_, ?_⟩
      · simpa [DataW.atKey, Lit.sameKey, h] using h1
      · simpa [Files.get, h] using h2
theorem insert_pos {x y : Lit × DataW Value} {es : List (Lit × DataW Value)} (h : x.1.before y.1 = true) : DataW.insert x (y :: es) = x :: y :: es := by rw [DataW.insert, if_pos h]
theorem insert_neg {x y : Lit × DataW Value} {es : List (Lit × DataW Value)} (h : ¬ x.1.before y.1 = true) : DataW.insert x (y :: es) = y :: DataW.insert x es := by rw [DataW.insert, if_neg h]
theorem Reps.ins {k : List UInt8} {v : Value} {bs : List UInt8} {s : Nat} (hv : FileRep fp w v bs s) : ∀ {es : List (Lit × DataW Value)} {F : Files}, Reps fp w es F → Reps fp w (DataW.insert (.string k, .held v) es) (insF ⟨k, bs, s⟩ F)
  | [], [], _ => ⟨rfl, ⟨v, rfl, hv⟩, trivial⟩
  | [], _ :: _, h => h.elim
  | _ :: _, [], h => h.elim
  | (_, _) :: es, f :: F, ⟨hk, hx, hr⟩ => by
    subst hk
    by_cases hb : bytesBefore k f.nm = true
    · rw [insert_pos (x := (.string k, .held v)) (y := (.string f.nm, _)) hb, insF, if_pos hb]
      exact ⟨rfl, ⟨v, rfl, hv⟩, rfl, hx, hr⟩
    · rw [insert_neg (x := (.string k, .held v)) (y := (.string f.nm, _)) hb, insF, if_neg hb]
      exact ⟨rfl, hx, Reps.ins hv hr⟩
theorem Reps.del {k : List UInt8} : ∀ {es : List (Lit × DataW Value)} {F : Files}, Reps fp w es F → Reps fp w (es.filter fun p => !p.1.sameKey (.string k)) (F.del k)
  | [], [], _ => trivial
  | [], _ :: _, h => h.elim
  | _ :: _, [], h => h.elim
  | (_, _) :: es, f :: F, ⟨hk, hx, hr⟩ => by
    have := Reps.del (k := k) hr
    subst hk
    simp only [Files.del, List.filter_cons, Lit.sameKey] at this ⊢
    by_cases h : (f.nm == k) = true
    · simp only [h]
      exact this
    · simp only [Bool.not_eq_true] at h
      simp only [h]
      exact ⟨rfl, hx, this⟩
theorem Reps.put {k : List UInt8} {v : Value} {bs : List UInt8} {s : Nat} (hv : FileRep fp w v bs s) {es : List (Lit × DataW Value)} {F : Files} (h : Reps fp w es F) :
   ∃ es', (DataW.map es).put (.string k) (.held v) = .map es' ∧ Reps fp w es' (F.put ⟨k, bs, s⟩) := ⟨_, rfl, Reps.ins hv (Reps.del h)⟩
theorem Reps.apart : ∀ {es : List (Lit × DataW Value)} {F : Files}, Reps fp w es F → es.Pairwise (fun p q => p.1 ≠ q.1) → F.Pairwise (fun p q => p.nm ≠ q.nm)
  | [], [], _, _ => .nil
  | [], _ :: _, h, _ => h.elim
  | _ :: _, [], h, _ => h.elim
  | (_, _) :: es, f :: F, ⟨hk, _, hr⟩, hp => by
    subst hk
    rw [List.pairwise_cons] at hp ⊢
    refine ⟨fun g hg => ?_, Reps.apart hr hp.2⟩
    obtain ⟨x, hx⟩ : ∃ x, (Lit.string g.nm, x) ∈ es := by
      clear hp
      induction es generalizing F with
      | nil => cases F with | nil => simp at hg | cons a b => exact hr.elim
      | cons a es ih =>
        obtain ⟨ak, ax⟩ := a
        cases F with
        | nil => simp at hg
        | cons b F =>
          obtain ⟨hk, _, hr⟩ := hr
          rcases List.mem_cons.1 hg with rfl | hg
          · exact ⟨ax, by rw [hk]; simp⟩
          · obtain ⟨x, hx⟩ := ih F hr hg
            exact ⟨x, by simp [hx]⟩
    intro e
    exact hp.1 _ hx (by rw [e])
end

/-- What has been met of the files, where the keys of 'left' are still to come. -/
def usedL (left : Lit → Bool) (F : Files) : Nat := (F.map fun f => if left (.string f.nm) then 0 else f.bs.length).sum
theorem usedL_start (F : Files) (left : Lit → Bool) (h : ∀ f ∈ F, left (.string f.nm) = true) : usedL left F = 0 := by
  unfold usedL
  induction F with
  | nil => rfl
  | cons a F ih => simp [h a (by simp), ih (fun f hf => h f (by simp [hf]))]
theorem usedL_end (F : Files) (left : Lit → Bool) (h : ∀ k, left k = false) : usedL left F = F.used := by simp [usedL, Files.used, h]
theorem usedL_le (F : Files) (left : Lit → Bool) : usedL left F ≤ F.used := by
  unfold usedL Files.used
  induction F with
  | nil => simp
  | cons a F ih => simp only [List.map_cons, List.sum_cons]; split <;> omega
theorem usedL_step {F : Files} {left : Lit → Bool} {k : List UInt8} (ha : F.Pairwise (fun p q => p.nm ≠ q.nm)) (hl : left (.string k) = true) (hh : F.has k = true) : usedL (fun z => left z && !z.sameKey (.string k)) F = usedL left F + (F.get k).bs.length := by
  induction F with
  | nil => simp [Files.has] at hh
  | cons a F ih =>
    rw [List.pairwise_cons] at ha
    by_cases h : a.nm = k
    · subst h
      have hr : usedL (fun z => left z && !z.sameKey (.string a.nm)) F = usedL left F := by
        unfold usedL
        congr 1
        apply List.map_congr_left
        intro f hf
        have := ha.1 f hf
        simp [Lit.sameKey, Ne.symm this]
      have hg : (Files.get (a :: F) a.nm) = a := by simp [Files.get]
      rw [hg]
      simp only [usedL, List.map_cons, List.sum_cons] at hr ⊢
      rw [hr]
      simp [Lit.sameKey, hl]
      omega
    · have hg : (Files.get (a :: F) k) = Files.get F k := by simp [Files.get, h]
      have := ih ha.2 (by simpa [Files.has, h] using hh)
      rw [hg]
      simp only [usedL, List.map_cons, List.sum_cons] at this ⊢
      rw [this]
      simp [Lit.sameKey, h]
      omega
theorem Files.get_len {F : Files} {k : List UInt8} : (F.get k).bs.length ≤ F.used := by
  unfold Files.get Files.used
  induction F with
  | nil => simp
  | cons a F ih =>
    simp only [List.find?_cons, List.map_cons, List.sum_cons]
    split
    · simp
    · exact Nat.le_trans ih (by omega)
theorem Files.del_used (F : Files) (k : List UInt8) (ha : F.Pairwise (fun p q => p.nm ≠ q.nm)) : (F.del k).used + (F.get k).bs.length = F.used := by
  induction F with
  | nil => simp [Files.del, Files.used, Files.get]
  | cons a F ih =>
    rw [List.pairwise_cons] at ha
    by_cases h : a.nm = k
    · subst h
      have hr : Files.del F a.nm = F := List.filter_eq_self.2 (fun f hf => by have := ha.1 f hf; simp [Ne.symm this])
      have e : Files.del (a :: F) a.nm = F := by
        rw [← hr]; simp [Files.del]
      rw [e]
      simp [Files.get, Files.used]
      omega
    · have := ih ha.2
      have e : Files.del (a :: F) k = a :: Files.del F k := by simp [Files.del, h]
      rw [e]
      simp only [Files.used, List.map_cons, List.sum_cons, Files.get, List.find?_cons, beq_iff_eq, h] at this ⊢
      have hb : (a.nm == k) = false := by simpa using h
      rw [hb]
      simp only
      omega
theorem insF_used (x : FE) (F : Files) : Files.used (insF x F) = x.bs.length + Files.used F := by
  induction F with
  | nil => simp [insF, Files.used]
  | cons a F ih =>
    unfold insF
    split
    · simp [Files.used]
    · simp only [Files.used, List.map_cons, List.sum_cons] at ih ⊢
      omega
theorem Files.put_used (F : Files) (x : FE) (ha : F.Pairwise (fun p q => p.nm ≠ q.nm)) : (F.put x).used + (F.get x.nm).bs.length = F.used + x.bs.length := by
  have := F.del_used x.nm ha
  rw [Files.put, insF_used]
  omega
theorem Files.del_len (F : Files) (k : List UInt8) : (F.del k).length ≤ F.length := List.length_filter_le _ _
theorem insF_len (x : FE) (F : Files) : (insF x F).length = F.length + 1 := by
  induction F with
  | nil => rfl
  | cons a F ih =>
    unfold insF
    split
    · simp
    · simp [ih]
theorem Files.del_none {F : Files} {k : List UInt8} (h : F.has k = false) : F.del k = F := by
  apply List.filter_eq_self.2
  intro f hf
  have := List.any_eq_false.1 h f hf
  simpa using this
theorem Files.del_lt {F : Files} {k : List UInt8} (h : F.has k = true) : (F.del k).length + 1 ≤ F.length := by
  induction F with
  | nil => simp [Files.has] at h
  | cons a F ih =>
    by_cases e : a.nm = k
    · have := Files.del_len F k
      simp only [Files.del, List.filter_cons] at this ⊢
      simp [e]
      simpa using this
    · have := ih (by simpa [Files.has, e] using h)
      simp only [Files.del, List.filter_cons] at this ⊢
      simp [e]
      simpa using this
theorem Files.put_len (F : Files) (x : FE) : (F.put x).length ≤ F.length + 1 := by
  rw [Files.put, insF_len]
  have := F.del_len x.nm
  omega
theorem Files.put_len' {F : Files} {x : FE} (h : F.has x.nm = true) : (F.put x).length ≤ F.length := by
  rw [Files.put, insF_len]
  exact F.del_lt h
theorem mem_insF {x y : FE} {F : Files} : y ∈ insF x F ↔ y = x ∨ y ∈ F := by
  induction F with
  | nil => simp [insF]
  | cons a F ih =>
    unfold insF
    split
    · simp
    · simp only [List.mem_cons, ih]
      constructor <;> (rintro (h | h | h) <;> simp [h])
theorem insF_apart {x : FE} {F : Files} (h : F.Pairwise (fun p q => p.nm ≠ q.nm)) (hx : ∀ f ∈ F, f.nm ≠ x.nm) : (insF x F).Pairwise (fun p q => p.nm ≠ q.nm) := by
  induction F with
  | nil => simp [insF]
  | cons a F ih =>
    unfold insF
    split
    · rw [List.pairwise_cons]
      exact ⟨fun f hf => Ne.symm (hx f hf), h⟩
    · rw [List.pairwise_cons] at h ⊢
      refine ⟨fun f hf => ?_, ih h.2 (fun f hf => hx f (by simp [hf]))⟩
      rcases mem_insF.1 hf with rfl | hf
      · exact hx a (by simp)
      · exact h.1 f hf
theorem Files.del_apart {F : Files} (h : F.Pairwise (fun p q => p.nm ≠ q.nm)) (k : List UInt8) : (F.del k).Pairwise (fun p q => p.nm ≠ q.nm) := h.filter _
theorem Files.put_apart {F : Files} (h : F.Pairwise (fun p q => p.nm ≠ q.nm)) (x : FE) : (F.put x).Pairwise (fun p q => p.nm ≠ q.nm) :=
  insF_apart (F.del_apart h _) (fun f hf => by have := (List.mem_filter.1 hf).2; simpa using this)
end Go.Proofs.Ytkmmaijkidkoiaa
