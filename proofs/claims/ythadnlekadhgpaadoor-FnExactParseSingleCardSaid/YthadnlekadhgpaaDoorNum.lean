/-
  strings.Cut at 'p', and the program's reading of a whole number. The library's tables and errors lie as they are laid.
-/
import Derived.Test.YthadnlekadhgpaaDoorPrsP
import Derived.Test.YthadnlekadhgpaaDoorFmtI
import Derived.Test.YthadnlekadhgpaaDoorShelfB
namespace Go.Proofs.YthadnlekadhgpaaDoor
open Go.RowKit
structure ErrsAt (w : World) : Prop where
  syn : ∃ tp p, w.var? Tryd.prog "strconv.ErrSyntax" = some #[.iface tp p]
  rng : ∃ tp p, w.var? Tryd.prog "strconv.ErrRange" = some #[.iface tp p]
theorem gSyn : Tryd.prog.globalNamed "strconv.ErrSyntax" = some 4 := by kernel_rfl
theorem gRng : Tryd.prog.globalNamed "strconv.ErrRange" = some 5 := by kernel_rfl
theorem ErrsAt.keep {w w' : World} (h : ErrsAt w) (hb : Below w.heap.size w w') : ErrsAt w' := by
  obtain ⟨t1, p1, h1⟩ := h.syn
  obtain ⟨t2, p2, h2⟩ := h.rng
  exact ⟨⟨t1, p1, Go.Joins.var_stays gSyn h1 hb (Nat.le_refl _)⟩, ⟨t2, p2, Go.Joins.var_stays gRng h2 hb (Nat.le_refl _)⟩⟩
theorem ext_take (l : List UInt8) (i : Nat) : (⟨l.toArray⟩ : ByteArray).extract 0 i = ⟨(l.take i).toArray⟩ := by
  apply ByteArray.ext
  simp [ByteArray.data_extract]
theorem ext_drop (l : List UInt8) (i : Nat) : (⟨l.toArray⟩ : ByteArray).extract i l.length = ⟨(l.drop i).toArray⟩ := by
  apply ByteArray.ext
  simp [ByteArray.data_extract, List.take_of_length_le]
set_option maxHeartbeats 1000000 in
theorem cut_in (l : List UInt8) (hl : l.length ≤ 4611686018427387904) (w : World) : Calls Tryd.prog 39 #[.string ⟨l.toArray⟩, .string ⟨#[112]⟩] w fun e w' => ∃ n, e = .returned (.tuple #[.string ⟨(cutP l).1.toArray⟩, .string ⟨(cutP l).2.1.toArray⟩, .bool (cutP l).2.2]) ∧ w' = w.drewN n := by
  rcases idx_cases l 112 with h | ⟨i, hi, h⟩
  · have E : cutP l = (l, [], false) := by unfold cutP; rw [h, if_neg (by decide)]
    rw [E]
    go_enter Tryd.func39, Tryd.ntmps39
    go_wp2_with (go_at_call 52; refine (Tryd.stringslite_Index_one ⟨l.toArray⟩ 112 _).mono ?_; rintro e w' ⟨rfl, rfl⟩; rw [show Lib.indexByte (⟨l.toArray⟩ : ByteArray).data.toList 112 = -1 from h])
    go_ret3
    exact ⟨0, rfl, rfl⟩
  · have E : cutP l = (l.take i, l.drop (i + 1), true) := by unfold cutP; rw [h, if_pos (by omega), Int.toNat_natCast]
    rw [E]
    have c2 : i ≤ l.length := by omega
    have c4 : i + 1 ≤ l.length := by omega
    have c3 : (i : Int) + 1 ≤ (l.length : Int) := by omega
    have c5 : wrap64 ((i : Int) + 1) = (i : Int) + 1 := by unfold wrap64; omega
    go_enter Tryd.func39, Tryd.ntmps39
    go_wp2_with (go_at_call 52; refine (Tryd.stringslite_Index_one ⟨l.toArray⟩ 112 _).mono ?_; rintro e w' ⟨rfl, rfl⟩; rw [show Lib.indexByte (⟨l.toArray⟩ : ByteArray).data.toList 112 = i from h])
    go_region
    go_wp2_with fail
    go_ret3
    refine ⟨_, ?_, rfl⟩
    rw [ext_take, ext_drop]; rfl
theorem cut_any (l : List UInt8) (hl : l.length ≤ 4611686018427387904) (w : World) : Calls Tryd.prog 29 #[.string ⟨l.toArray⟩, .string ⟨#[112]⟩] w fun e w' => ∃ n, e = .returned (.tuple #[.string ⟨(cutP l).1.toArray⟩, .string ⟨(cutP l).2.1.toArray⟩, .bool (cutP l).2.2]) ∧ w' = w.drewN n := by
  have H := Lib.hid hl
  clear hl
  go_enter Tryd.func29, Tryd.ntmps29
  go_wp2_with (go_at_call 39; refine (cut_in l H.out _).mono ?_; rintro e w' ⟨n, rfl, rfl⟩)
  go_ret3
  exact ⟨_, rfl, rfl⟩
theorem str_eq (a b : List UInt8) : ((⟨a.toArray⟩ : ByteArray) == (⟨b.toArray⟩ : ByteArray)) = (a == b) := by
  show (a.toArray == b.toArray) = (a == b)
  rw [Bool.eq_iff_iff, beq_iff_eq, beq_iff_eq]
  exact ⟨fun h => by simpa using congrArg Array.toList h, fun h => by rw [h]⟩
/-- A whole number as the program reads it. -/
def numP (l : List UInt8) : Int × Bool :=
  match Lib.atoiAll l with
  | .ok v => (v, Lib.itoa v == l)
  | .range => (Lib.atoiSat l, false)
  | _ => (0, false)
def NumAns (l : List UInt8) (w : World) (e : Ending) (w' : World) : Prop := e = .returned (.tuple #[.int .i64 (numP l).1, .bool (numP l).2]) ∧ Below w.heap.size w w'
set_option maxHeartbeats 1000000 in
theorem number_any (l : List UInt8) (hl : l.length ≤ 1048576) (w : World) (hT : TabsAt w) (hE : ErrsAt w) : Calls Tryd.prog 30 #[.string ⟨l.toArray⟩] w (NumAns l w) := by
  have HS := Lib.hid (show (⟨l.toArray⟩ : ByteArray).size ≤ 1048576 from by show l.toArray.size ≤ _; simpa using hl)
  have HT := Lib.hid hT
  clear hT
  rcases h : Lib.atoiAll l with v | _ | _
  ·
    have hn : numP l = (v, Lib.itoa v == l) := by unfold numP; rw [h]
    have hb := Lib.atoiAll_bounds h
    have H := Lib.hid (show _ ∧ _ from ⟨h, hn⟩)
    clear h hn hE
    go_enter Tryd.func30, Tryd.ntmps30
    go_wp2_with fail
    refine (Tryd.strconv_Atoi_ok ⟨l.toArray⟩ (by have := HS.out; omega) v H.out.1 _).mono ?_
    rintro e w1 ⟨rfl, hw⟩
    have HB := Lib.hid (show Below w.heap.size w w1 from by
      rcases hw with rfl | ⟨t, rfl⟩
      · exact Below.refl _ _
      · exact Lib.bytesWorld_below _ _ _)
    clear hw
    go_wp2_with fail
    refine (Tryd.strconv_Itoa v hb.1 hb.2 _ (HT.out.keep HB.out).pow).mono ?_
    rintro e w2 ⟨rfl, k2, os2, rfl⟩
    have HB2 := Lib.hid (HB.out.trans ((below_grow w1 k2 os2).mono HB.out.size))
    generalize Go.Sort.grow (w1.drewN k2) os2 = w2 at *
    clear hb
    have hq := str_eq (Lib.itoa v) l
    generalize Lib.itoa v = s at *
    go_wp2_with fail
    go_ret2
    refine ⟨?_, HB2.out⟩
    rw [H.out.2]; rfl
  ·
    have hn : numP l = (0, false) := by unfold numP; rw [h]
    have H := Lib.hid (show _ ∧ _ from ⟨h, hn⟩)
    obtain ⟨tp, pv, hv⟩ := hE.syn
    have HV := Lib.hid hv
    clear h hn hE hv
    go_enter Tryd.func30, Tryd.ntmps30
    go_wp2_with fail
    refine (Tryd.strconv_Atoi_syntax_var ⟨l.toArray⟩ (by have := HS.out; omega) H.out.1 tp pv _ HV.out).mono ?_
    rintro e w1 ⟨N, rfl, -, -, hb⟩
    have HB := Lib.hid hb
    clear hb
    go_wp2_with fail
    go_ret2
    refine ⟨?_, HB.out⟩
    rw [H.out.2]; rfl
  ·
    have hn : numP l = (Lib.atoiSat l, false) := by unfold numP; rw [h]
    have H := Lib.hid (show _ ∧ _ from ⟨h, hn⟩)
    obtain ⟨tp, pv, hv⟩ := hE.rng
    have HV := Lib.hid hv
    clear h hn hE hv
    go_enter Tryd.func30, Tryd.ntmps30
    go_wp2_with fail
    refine (Tryd.strconv_Atoi_range_var ⟨l.toArray⟩ (by have := HS.out; omega) H.out.1 tp pv _ HV.out).mono ?_
    rintro e w1 ⟨N, rfl, -, -, hb⟩
    have HB := Lib.hid hb
    clear hb
    go_wp2_with fail
    go_ret2
    refine ⟨?_, HB.out⟩
    rw [H.out.2]; rfl
end Go.Proofs.YthadnlekadhgpaaDoor
