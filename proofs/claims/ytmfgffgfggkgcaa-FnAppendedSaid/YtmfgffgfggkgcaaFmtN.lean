/-
  The decimal text of a whole number, by the reference: it is the library's.
-/
import Derived.Test.YtmfgffgfggkgcaaFmtP
import Derived.Test.YtmfgffgfggkgcaaChecked
import Derived.WalkKit
import Derived.Below
import Derived.Lib.Hide
import Derived.LoopTactic
import Derived.Laws.IdiomStrings
import Derived.Lib.ItoaLen
namespace Go.Proofs.Ytmfgffgfggkgcaa
open Go.RowKit
def StrAns (l : List UInt8) (w : World) (e : Ending) (w' : World) : Prop := e = .returned (.string ⟨l.toArray⟩) ∧ Below w.heap.size w w'
def dgt (n : Nat) : UInt8 := UInt8.ofNat (48 + n % 10)
theorem dec_step (n : Nat) : Lib.decDigits n = (if n / 10 = 0 then [] else Lib.decDigits (n / 10)) ++ [dgt n] := by
  rw [Lib.decDigits]
  split
  · rename_i h
    rw [if_pos (by omega)]
    unfold dgt
    rw [Nat.mod_eq_of_lt h]; rfl
  · rw [if_neg (by omega)]; rfl
theorem dec_len {n : Nat} (h : n < 9223372036854775808) : (Lib.decDigits n).length ≤ 21 := by
  have := Lib.itoa_length_le (n : Int) (by omega) (by omega)
  unfold Lib.itoa at this
  rwa [if_neg (by omega), Int.toNat_natCast] at this
theorem ba_append (a b : List UInt8) : (⟨a.toArray⟩ : ByteArray) ++ (⟨b.toArray⟩ : ByteArray) = ⟨(a ++ b).toArray⟩ := by
  apply ByteArray.ext
  rw [ByteArray.data_append]
  simp
theorem run_digit (n : Nat) (w : World) : (convert 31 9 (.slice (some ⟨w.heap.size, 0, none⟩) 1 1)).run Try.prog (w.alloc (.cells #[.int .u8 (48 + (n : Int) % 10)] 5)) =
    .ok (.string ⟨#[dgt n]⟩) (w.alloc (.cells #[.int .u8 (48 + (n : Int) % 10)] 5)) := by
  refine run_convert_bytes_back (P := Try.prog) _ 31 9 5 ⟨w.heap.size, 0, none⟩ 1 [dgt n] Try.underlying31 Try.underlying5 Try.underlying9 ?_
  intro j hj
  obtain rfl : j = 0 := by simpa using hj
  have hv : ((dgt n).toNat : Int) = 48 + (n : Int) % 10 := by
    unfold dgt
    rw [UInt8.toNat_ofNat']
    omega
  simp [Addr.add, hv]
set_option maxHeartbeats 1000000 in
set_option maxRecDepth 100000 in
theorem l1Number_pos (n : Nat) (h : n < 9223372036854775808) (w : World) : Calls Try.prog 48 #[.int .i64 n] w (StrAns (Lib.decDigits n) w) := by
  have h0 : ¬ (n : Int) < 0 := by omega
  have hw : ∀ m : Nat, m ≤ n → wrap64 ((m : Int) / 10) = (m : Int) / 10 := fun m hm => by unfold wrap64; omega
  have HW := Lib.hid hw
  have hd := Lib.hid (dec_step n)
  have HL := Lib.hid (dec_len h)
  clear h hw
  go_enter Try.func48, Try.ntmps48
  go_wp2
  rw [run_digit]
  go_wp2
  rw [HW.out n (Nat.le_refl _)]
  have hb := (Below.refl w.heap.size w).alloc (Nat.le_refl _) (.cells #[.int .u8 (48 + (n : Int) % 10)] 5)
  go_loopw [0, 3] (fun kv ov wr => ∃ (m : Nat) (out : List UInt8), m ≤ n ∧ kv = .int .i64 m ∧ ov = .string ⟨out.toArray⟩ ∧ Lib.decDigits n = (if m = 0 then [] else Lib.decDigits m) ++ out ∧ Below w.heap.size w wr) (fun kv _ _ => (intOf kv).toNat)
  case atStart => exact ⟨n / 10, [dgt n], by omega, by simp, rfl, hd.out, hb⟩
  case round =>
    clear hb
    obtain ⟨m, out, hm, rfl, rfl, ho, hb⟩ := hrel
    have R := Lib.hid (show _ ∧ _ from ⟨ho, hb⟩)
    clear ho hb
    by_cases hz : 0 < (m : Int)
    · go_wp2
      rw [run_digit]
      have hq := HW.out m hm
      have hol : ¬ 9223372036854775807 < 1 + out.length := by
        have := congrArg List.length R.out.1
        rw [List.length_append] at this
        have := HL.out
        omega
      go_wp2
      rw [hq]
      go_roundw
      case rel =>
        refine ⟨m / 10, dgt m :: out, by omega, by simp, ?_, ?_, R.out.2.alloc R.out.2.size _⟩
        · rw [show (⟨#[dgt m]⟩ : ByteArray) = ⟨[dgt m].toArray⟩ from rfl, ba_append]; rfl
        · rw [R.out.1, if_neg (by omega), dec_step m, List.append_assoc]; rfl
      case measure => simp [intOf]; omega
    · obtain rfl : m = 0 := by omega
      go_wp2
      go_ret
      refine ⟨?_, R.out.2⟩
      rw [R.out.1]; simp
set_option maxHeartbeats 1000000 in
set_option maxRecDepth 100000 in
theorem l1Number_any (n : Int) (h0 : -9223372036854775807 ≤ n) (h1 : n ≤ 9223372036854775807) (w : World) : Calls Try.prog 48 #[.int .i64 n] w (StrAns (Lib.itoa n) w) := by
  by_cases hn : n < 0
  · obtain ⟨u, rfl⟩ : ∃ u : Nat, n = -(u : Int) := ⟨n.natAbs, by omega⟩
    have hu : u < 9223372036854775808 := by omega
    have hw : wrap64 (u : Int) = u := by unfold wrap64; omega
    have hi : Lib.itoa (-(u : Int)) = 45 :: Lib.decDigits u := by
      unfold Lib.itoa; rw [if_pos hn]; simp
    have hl := dec_len hu
    have HI := Lib.hid (show _ ∧ _ from ⟨hi, hu⟩)
    have hol : ¬ 9223372036854775807 < 1 + (Lib.decDigits u).length := by omega
    clear h0 h1 hi hl hu
    go_enter Try.func48, Try.ntmps48
    go_wp2_with fail
    refine (l1Number_pos u HI.out.2 _).mono ?_
    rintro e w1 ⟨rfl, hb⟩
    have HB := Lib.hid hb
    clear hb
    go_wp2_with fail
    go_ret
    refine ⟨?_, HB.out⟩
    rw [HI.out.1, show (⟨#[45]⟩ : ByteArray) = ⟨[45].toArray⟩ from rfl, ba_append]
    rfl
  · obtain ⟨u, rfl⟩ : ∃ u : Nat, n = (u : Int) := ⟨n.toNat, by omega⟩
    have hi : Lib.itoa (u : Int) = Lib.decDigits u := by unfold Lib.itoa; rw [if_neg hn]; simp
    rw [hi]
    exact l1Number_pos u (by omega) w
end Go.Proofs.Ytmfgffgfggkgcaa
