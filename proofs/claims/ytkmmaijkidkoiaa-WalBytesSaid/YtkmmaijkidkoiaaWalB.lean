/- A log: a file is made anew. -/
import Derived.Test.YtkmmaijkidkoiaaWalA
namespace Go.Proofs.Ytkmmaijkidkoiaa
open Go Go.RowKit
variable {fp : Nat → Prop}

/-- Deeds one after the other, up to the first error. -/
def andDo (r : Int × Dk) (f : Dk → Int × Dk) : Int × Dk := if r.1 = 0 then f r.2 else r
def Dk.fresh4 (D : Dk) (nm bs : List UInt8) : Int × Dk := andDo (andDo (andDo (D.create temp) (·.append temp bs)) (·.sync temp)) (·.rename temp nm)
def Dk.fresh (D : Dk) (nm bs : List UInt8) : Int × Dk :=
  if (D.remove temp).1 = 7 then D.remove temp else if ((D.remove temp).2.fresh4 nm bs).1 ≠ 0 ∧ ((D.remove temp).2.fresh4 nm bs).1 ≠ 7 then (((D.remove temp).2.fresh4 nm bs).1, (((D.remove temp).2.fresh4 nm bs).2.remove temp).2) else (D.remove temp).2.fresh4 nm bs

theorem andDo_err {r : Int × Dk} {f : Dk → Int × Dk} (h : r.1 ≠ 0) : andDo r f = r := if_neg h
theorem andDo_ok {r : Int × Dk} {f : Dk → Int × Dk} (h : r.1 = 0) : andDo r f = f r.2 := if_pos h

set_option maxRecDepth 100000 in
set_option maxHeartbeats 1000000 in
theorem fresh_all (d m bd bn bb : Nat) (D : Dk) (nm : ByteArray) (B L : Option Addr) (nb cb : Nat) (bs : List UInt8) (w : World) (h : DiskAt fp w d m D) (hb : Rd w B (bs.map bv)) (hn : bs.length = nb) (hnb : nb ≤ 1000000000) (hoff : ∀ g o, B = some ⟨g, o, none⟩ → g ∉ [d, m])
   (gd : w.cell? ⟨bd, 0, none⟩ = some (.pointer (some ⟨d, 0, none⟩))) (gn : w.cell? ⟨bn, 0, none⟩ = some (.string nm)) (gb : w.cell? ⟨bb, 0, none⟩ = some (.slice B nb cb)) (hnm : nm.size ≤ 1099511627776)
   (n1 : bd ∉ [d, m]) (n2 : bn ∉ [d, m]) (n3 : bb ∉ [d, m]) (hL : Rd w L ([(37, #[.pointer (some ⟨bd, 0, none⟩)]), (39, #[.pointer (some ⟨bd, 0, none⟩), .pointer (some ⟨bb, 0, none⟩)]), (40, #[.pointer (some ⟨bd, 0, none⟩)]), (41, #[.pointer (some ⟨bd, 0, none⟩), .pointer (some ⟨bn, 0, none⟩)])].map fv)) (nL : ∀ g o, L = some ⟨g, o, none⟩ → g ∉ [d, m]) :
   Calls Try.prog 19 #[.slice L 4 4] w fun e w' => e = .returned (.int .i64 (D.fresh4 nm.data.toList bs).1) ∧ DiskAt fp w' d m (D.fresh4 nm.data.toList bs).2 ∧ Turn [d, m] w w' := by
  let S : Nat → Int × Dk := fun k => match k with
    | 0 => (0, D)
    | 1 => D.create temp
    | 2 => andDo (D.create temp) (·.append temp bs)
    | 3 => andDo (andDo (D.create temp) (·.append temp bs)) (·.sync temp)
    | _ => D.fresh4 nm.data.toList bs
  refine (all_c L 4 4 _ w rfl (by decide) ?_ (fun k w' => (S k).1 = 0 ∧ DiskAt fp w' d m (S k).2 ∧ Turn [d, m] w w') (fun r w' => r = (D.fresh4 nm.data.toList bs).1 ∧ DiskAt fp w' d m (D.fresh4 nm.data.toList bs).2 ∧ Turn [d, m] w w') ⟨rfl, h, .refl _ _⟩ (fun k w' hI => hI.2.2.rd hL nL) ?_).mono ?_
  · intro f hf
    simp only [List.mem_cons, List.not_mem_nil, or_false] at hf
    rcases hf with rfl | rfl | rfl | rfl
    · exact ent Try.func37 (by kernel_rfl) rfl
    · exact ent Try.func39 (by kernel_rfl) rfl
    · exact ent Try.func40 (by kernel_rfl) rfl
    · exact ent Try.func41 (by kernel_rfl) rfl
  · intro k f w' hf hI
    obtain ⟨hok, hD, ht⟩ := hI
    match k with
    | 0 =>
      simp only [List.getElem?_cons_zero, Option.some.injEq] at hf
      subst hf
      refine (fresh1_c d m bd D w' hD (ht.cell gd n1)).mono ?_
      rintro e w2 ⟨rfl, h2, ht2⟩
      refine ⟨_, rfl, fun hr => ⟨hr, h2, ht.trans ht2⟩, fun hr => ?_⟩
      have e4 : D.fresh4 nm.data.toList bs = D.create temp := by
        unfold Dk.fresh4
        rw [andDo_err (r := D.create temp) hr, andDo_err hr, andDo_err hr]
      rw [e4]
      exact ⟨rfl, h2, ht.trans ht2⟩
    | 1 =>
      simp only [List.getElem?_cons_succ, List.getElem?_cons_zero, Option.some.injEq] at hf
      subst hf
      have hS : S 1 = D.create temp := rfl
      rw [hS] at hok hD
      refine (fresh2_c d m bd bb _ B nb cb bs w' hD (ht.rd hb hoff) hn hnb hoff (ht.cell gb n3) (ht.cell gd n1)).mono ?_
      rintro e w2 ⟨rfl, h2, ht2⟩
      have hS2 : S 2 = (D.create temp).2.append temp bs := andDo_ok hok
      refine ⟨_, rfl, fun hr => ⟨by rw [hS2]; exact hr, by rw [hS2]; exact h2, ht.trans ht2⟩, fun hr => ?_⟩
      have e4 : D.fresh4 nm.data.toList bs = (D.create temp).2.append temp bs := by
        unfold Dk.fresh4
        rw [andDo_ok (r := D.create temp) hok, andDo_err hr, andDo_err hr]
      rw [e4]
      exact ⟨rfl, h2, ht.trans ht2⟩
    | 2 =>
      simp only [List.getElem?_cons_succ, List.getElem?_cons_zero, Option.some.injEq] at hf
      subst hf
      have hS : S 2 = andDo (D.create temp) (·.append temp bs) := rfl
      rw [hS] at hok hD
      refine (fresh3_c d m bd _ w' hD (ht.cell gd n1)).mono ?_
      rintro e w2 ⟨rfl, h2, ht2⟩
      have hS2 : S 3 = (andDo (D.create temp) (·.append temp bs)).2.sync temp := andDo_ok hok
      refine ⟨_, rfl, fun hr => ⟨by rw [hS2]; exact hr, by rw [hS2]; exact h2, ht.trans ht2⟩, fun hr => ?_⟩
      have e4 : D.fresh4 nm.data.toList bs = (andDo (D.create temp) (·.append temp bs)).2.sync temp := by
        unfold Dk.fresh4
        rw [andDo_ok (r := andDo (D.create temp) (·.append temp bs)) hok, andDo_err hr]
      rw [e4]
      exact ⟨rfl, h2, ht.trans ht2⟩
    | 3 =>
      simp only [List.getElem?_cons_succ, List.getElem?_cons_zero, Option.some.injEq] at hf
      subst hf
      have hS : S 3 = andDo (andDo (D.create temp) (·.append temp bs)) (·.sync temp) := rfl
      rw [hS] at hok hD
      refine (fresh4_c d m bd bn _ nm w' hD (ht.cell gd n1) (ht.cell gn n2) hnm).mono ?_
      rintro e w2 ⟨rfl, h2, ht2⟩
      have e4 : D.fresh4 nm.data.toList bs = (andDo (andDo (D.create temp) (·.append temp bs)) (·.sync temp)).2.rename temp nm.data.toList := andDo_ok hok
      have hS2 : S 4 = D.fresh4 nm.data.toList bs := rfl
      rw [hS2, e4]
      exact ⟨_, rfl, fun hr => ⟨hr, h2, ht.trans ht2⟩, fun hr => ⟨rfl, h2, ht.trans ht2⟩⟩
    | k + 4 => simp at hf
  · rintro e w' ⟨r, rfl, h0, h1⟩
    by_cases hr : r = 0
    · obtain ⟨h2, h3, h4⟩ := h0 hr
      have hS2 : S 4 = D.fresh4 nm.data.toList bs := rfl
      rw [hS2] at h2 h3
      exact ⟨by rw [h2, hr], h3, h4⟩
    · obtain ⟨h2, h3, h4⟩ := h1 hr
      exact ⟨by rw [h2], h3, h4⟩
end Go.Proofs.Ytkmmaijkidkoiaa
