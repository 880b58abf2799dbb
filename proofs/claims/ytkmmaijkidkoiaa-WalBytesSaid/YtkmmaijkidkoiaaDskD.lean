/- The disk: a file's name. -/
import Derived.Test.YtkmmaijkidkoiaaDskC
namespace Go.Proofs.Ytkmmaijkidkoiaa
open Go Go.RowKit

set_option maxRecDepth 100000 in
set_option maxHeartbeats 1000000 in
theorem slIndexByte_c (s : ByteArray) (c : Int) (w : World) :
   Calls Try.prog 92 #[.string s, .int .u8 c] w fun e w' => e = .returned (.int .i64 (Lib.indexByte s.data.toList c.toNat.toUInt8)) ∧ w' = w := by
  go_enter Try.func92, Try.ntmps92
  go_wp2
  rw [run_callFunc_extern Try.func96 (by kernel_rfl) (by kernel_rfl) (by kernel_rfl) (e := Extern.BytealgIndexByte.indexByte) (by kernel_rfl), Lib.run_indexByteString]
  simp only [Result.andThen]
  rw [Oper.upon_value]
  go_wp2
  go_ret
  exact ⟨rfl, rfl⟩
set_option maxRecDepth 100000 in
set_option maxHeartbeats 1000000 in
theorem stIndexByte_c (s : ByteArray) (c : Int) (w : World) :
   Calls Try.prog 85 #[.string s, .int .u8 c] w fun e w' => e = .returned (.int .i64 (Lib.indexByte s.data.toList c.toNat.toUInt8)) ∧ w' = w := by
  go_enter Try.func85, Try.ntmps85
  go_wp2_with fail
  refine (slIndexByte_c _ _ _).mono ?_
  rintro e w' ⟨rfl, rfl⟩
  go_wp2
  go_ret
  exact ⟨rfl, rfl⟩

/-- The first k signs of a name may be its. -/
def okSigns (l : List UInt8) : Bool := l.all fun c => decide (0 ≤ Lib.indexByte signs c)
theorem take_sign (s : ByteArray) (k : Nat) (h : k < s.size) : s.data.toList.take (k + 1) = s.data.toList.take k ++ [s[k]] := by
  rw [List.take_succ_eq_append_getElem (by simpa using h)]; rfl
theorem okSigns_not (s : ByteArray) (k : Nat) (h : k < s.size) (hi : Lib.indexByte signs s[k] < 0) : okName s.data.toList = false := by
  have : s.data.toList.all (fun c => decide (0 ≤ Lib.indexByte signs c)) = false := by
    rw [List.all_eq_false]
    refine ⟨s[k], ?_, by simp; omega⟩
    have : s.data.toList[k]'(by simpa using h) = s[k] := rfl
    rw [← this]
    exact List.getElem_mem _
  simp [okName, this]

/-- Where a byte is among the signs; below 0: nowhere. -/
def sgn (c : UInt8) : Int := Lib.indexByte signs c
theorem sign_c (c : UInt8) (w : World) :
   Calls Try.prog 85 #[.string ⟨#[46, 45, 48, 49, 50, 51, 52, 53, 54, 55, 56, 57, 97, 98, 99, 100, 101, 102, 103, 104, 105, 106, 107, 108, 109, 110, 111, 112, 113, 114, 115, 116, 117, 118, 119, 120, 121, 122]⟩, .int .u8 (c.toNat : Int)] w fun e w' => e = .returned (.int .i64 (sgn c)) ∧ w' = w := by
  have h := stIndexByte_c ⟨#[46, 45, 48, 49, 50, 51, 52, 53, 54, 55, 56, 57, 97, 98, 99, 100, 101, 102, 103, 104, 105, 106, 107, 108, 109, 110, 111, 112, 113, 114, 115, 116, 117, 118, 119, 120, 121, 122]⟩ (c.toNat : Int) w
  have e : (c.toNat : Int).toNat.toUInt8 = c := by simp
  rw [e] at h
  exact h
theorem sgn_lo (c : UInt8) : -1 ≤ sgn c := by
  unfold sgn
  generalize signs = l
  induction l with
  | nil => simp [Lib.indexByte]
  | cons a l ih =>
    unfold Lib.indexByte
    split
    · omega
    · split <;> omega

set_option maxRecDepth 100000 in
set_option maxHeartbeats 1000000 in
theorem named_c (s : ByteArray) (w : World) (hs : s.size ≤ 1099511627776) :
   Calls Try.prog 69 #[.string s] w fun e w' => e = .returned (.bool (okName s.data.toList)) ∧ w' = w := by
  have hres : okName s.data.toList = (okSigns s.data.toList && !s.data.toList.isEmpty && decide (s.data.toList.length ≤ 20)) := rfl
  replace hres := Lib.hid hres
  go_enter Try.func69, Try.ntmps69
  go_wp2_with fail
  go_loopw [6] (fun i wr => ∃ k : Nat, k ≤ s.size ∧ i = .int .i64 (k : Int) ∧ okSigns (s.data.toList.take k) = true ∧ wr = w) (fun i _ => s.size - (intOf i).toNat)
  case atStart => exact ⟨0, by omega, rfl, rfl, rfl⟩
  case round =>
    obtain ⟨k, hk, rfl, hok, rfl⟩ := hrel
    replace hok := Lib.hid hok
    by_cases hlt : k < s.size
    · have hno := okSigns_not s k hlt
      have htk := take_sign s k hlt
      replace htk := Lib.hid htk
      have hdef : Lib.indexByte signs s[k] = sgn s[k] := rfl
      rw [hdef] at hno
      replace hno := Lib.hid hno
      have hlo := sgn_lo s[k]
      have hst : 0 ≤ sgn s[k] → okSigns (s.data.toList.take (k + 1)) = true := by
        intro h0
        rw [htk.out, okSigns, List.all_append]
        have := hok.out
        unfold okSigns at this
        rw [this]
        simpa [sgn] using h0
      replace hst := Lib.hid hst
      clear hdef
      go_wp2_with fail
      refine (sign_c s[k] _).mono ?_
      rintro e w' ⟨rfl, rfl⟩
      generalize sgn s[k] = g at *
      go_wp2
      · go_ret
        exact ⟨by rw [hno.out (by assumption)]; rfl, rfl⟩
      · go_roundw
        case rel => exact ⟨k + 1, by omega, by go_num, hst.out (by omega), trivial⟩
        case measure => simp [intOf]; omega
    · have e : k = s.size := by omega
      subst e
      have hall := hok.out
      rw [List.take_of_length_le (by simp)] at hall
      rw [hall] at hres
      clear hall hok
      have hl : s.data.toList.length = s.size := by simp
      rw [hl] at hres
      by_cases h0 : s.size = 0
      · obtain rfl : s = ⟨#[]⟩ := by
          rcases s with ⟨a⟩
          congr
          exact Array.eq_empty_of_size_eq_zero h0
        clear h0 hl
        go_wp2
        go_ret
        exact ⟨by rw [hres.out]; rfl, rfl⟩
      · have he : s.data.toList.isEmpty = false := by
          cases h : s.data.toList with
          | nil => rw [h] at hl; simp at hl; omega
          | cons a b => rfl
        rw [he] at hres
        have he1 : s.toList.isEmpty = false := by rw [ByteArray.toList_eq]; exact he
        have he2 : (!s.toList.isEmpty) = true := by rw [he1]; rfl
        clear hl he
        by_cases h20 : s.size ≤ 20
        all_goals
          go_wp2
          go_ret
          exact ⟨by rw [hres.out]; simp [h20, he1]; omega, rfl⟩
end Go.Proofs.Ytkmmaijkidkoiaa
