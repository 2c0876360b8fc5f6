/-
  laws.toFloat32S copies a slice into a block of its own.
-/
import Derived.Test.YtpjplcbcbabbnaaRows
import Derived.Test.YtpjplcbcbabbnaaFl
import Derived.Test.YtpjplcbcbabbnaaSl
import Derived.WalkSpells
import Derived.WalkLawsBesides
import Derived.LoopTactic
namespace Go.Proofs.Ytpjplcbcbabbnaa
open Go.RowKit

def fl (x : Nat) : Value := .float .f32 x

theorem elemInfo : (Try.prog.info? 23).map (fun i => (i.zero, i.size, i.bytes)) = some (some (.float .f32 0), 1, 4) := by kernel_rfl

/-- A copy in a new block. -/
def CopyAns (len : Nat) (xs : List Value) (w : World) (e : Ending) (w' : World) : Prop :=
  ∃ g, e = .returned (.slice (some ⟨g, 0, none⟩) len len) ∧ w.heap.size ≤ g ∧ Holds w' g 0 xs ∧ Below w.heap.size w w'

set_option maxHeartbeats 400000 in
theorem toFloats_some (b off len cap : Nat) (xs : List Value) (w : World) (hx : xs.length = len) (hlen : len ≤ 1048576) (hh : Holds w b off xs) (h1 : ∀ x ∈ xs, ∃ u, x = fl u) (hn : 0 < len) :
    Calls Try.prog 10 #[.slice (some ⟨b, off, none⟩) len cap] w (CopyAns len xs w) := by
  obtain ⟨i0, hi, hz0, hz1, hz2⟩ := info_parts elemInfo
  have hbl := hh.lt (by omega)
  have hmk : ∀ w, (Instr.makeSlice 22 (.int .i64 len) (.int .i64 len)).run Try.prog w = .ok (.slice (some ⟨w.heap.size, 0, none⟩) len len) (w.alloc (.cells (madeCells #[.float .f32 0] len) 23)) := by
    intro w
    have := run_make (P := Try.prog) w 22 23 i0 (.float .f32 0) Try.underlying22 hi hz0 .i64 .i64 len len (by omega) (by omega) (by rw [hz2]; omega) (by omega)
    rw [hz1] at this
    simpa [Value.cells] using this
  go_enter Try.func10, Try.ntmps10
  go_wp2
  clear hmk
  go_loopw [4] (fun i wr => ∃ k : Nat, k ≤ len ∧ i = .int .i64 k ∧ wr.ownsRow w.heap.size 23 1 (.slice (some ⟨w.heap.size, 0, none⟩) len len) len (xs.take k ++ List.replicate (xs.length - k) (.float .f32 0)) ∧ Below w.heap.size w wr) (fun i _ => len - (intOf i).toNat)
  case atStart =>
    refine ⟨0, by omega, rfl, ?_, (Below.refl _ _).alloc (Nat.le_refl _) _⟩
    have := World.ownsRow_lit (base := w.heap.size) (e := 23) (size := 1) w (madeCells #[.float .f32 0] len) len (Nat.le_refl _) (by unfold maxLen; omega) (by rw [size_madeCells]; omega)
    rw [toList_madeCells_one] at this
    simpa [hx] using this
  case round =>
    obtain ⟨k, hk, rfl, hown, hbel⟩ := hrel
    by_cases hlt : (k : Int) < (len : Int)
    · have hk' : k < xs.length := by omega
      obtain ⟨u, hu⟩ := h1 _ (List.getElem_mem hk')
      have hc : wr.cell? ⟨b, off + k, none⟩ = some (.float .f32 u) := by rw [hbel.cell (p := ⟨b, off + k, none⟩) hbl, hh.at hk', hu]; rfl
      have hs := hown.stored k (.float .f32 u)
      have hz : wr.cell? ⟨w.heap.size, k, none⟩ = some (.float .f32 0) := by
        rw [hown.cellAt k (by omega), List.getElem?_append_right (by rw [List.length_take]; omega), List.getElem?_replicate, if_pos (by rw [List.length_take]; omega)]
      have hf := hown.frozenAt k
      have hset := set_copy (z := .float .f32 0) hk'
      rw [hu] at hset
      have HS := Lib.hid (show _ ∧ _ from ⟨hs, hset⟩)
      clear hs hset hu hown
      go_wp2
      go_roundw
      case rel => exact ⟨k + 1, by omega, by go_num, by have h := HS.out.1.1; rw [← HS.out.2]; exact h, hbel.setCell (Nat.le_refl _) _⟩
      case measure => simp [intOf]; omega
    · obtain rfl : k = len := by omega
      have hO := Lib.hid (holds_of_owns hown)
      clear hown
      go_wp2
      go_ret
      refine ⟨_, rfl, Nat.le_refl _, ?_, hbel⟩
      have := hO.out
      rwa [← hx, List.take_length, Nat.sub_self, List.replicate_zero, List.append_nil] at this

theorem holds_nil (w : World) (b off : Nat) : Holds w b off [] := fun i hi => by cases hi
set_option maxHeartbeats 400000 in
theorem toFloats_none (a : Option Addr) (cap : Nat) (w : World) : Calls Try.prog 10 #[.slice a 0 cap] w (CopyAns 0 [] w) := by
  obtain ⟨i0, hi, hz0, hz1, hz2⟩ := info_parts elemInfo
  have hmk : ∀ w, (Instr.makeSlice 22 (.int .i64 0) (.int .i64 0)).run Try.prog w = .ok (.slice (some ⟨w.heap.size, 0, none⟩) 0 0) (w.alloc (.cells (madeCells #[.float .f32 0] 0) 23)) := by
    intro w
    have := run_make (P := Try.prog) w 22 23 i0 (.float .f32 0) Try.underlying22 hi hz0 .i64 .i64 0 0 (by omega) (by omega) (by rw [hz2]; omega) (by omega)
    rw [hz1] at this
    simpa [Value.cells] using this
  go_enter Try.func10, Try.ntmps10
  go_wp2
  clear hmk
  go_loopw [4] (fun i wr => i = .int .i64 0 ∧ Below w.heap.size w wr) (fun i _ => 1 - (intOf i).toNat)
  case atStart => exact ⟨rfl, (Below.refl _ _).alloc (Nat.le_refl _) _⟩
  case round =>
    obtain ⟨rfl, hbel⟩ := hrel
    go_wp2
    go_ret
    exact ⟨_, rfl, Nat.le_refl _, holds_nil _ _ _, hbel⟩
theorem toFloats_any (a : Option Addr) (len cap : Nat) (xs : List Value) (w : World) (hlen : len ≤ 1048576) (hh : SlAt w a len xs) (h1 : ∀ x ∈ xs, ∃ u, x = fl u) :
    Calls Try.prog 10 #[.slice a len cap] w (CopyAns len xs w) := by
  by_cases h0 : len = 0
  · subst h0
    obtain rfl : xs = [] := List.eq_nil_of_length_eq_zero hh.1
    exact toFloats_none a cap w
  · rcases hh.2 with h | ⟨b, off, rfl, hb⟩
    · exact absurd h h0
    · exact toFloats_some b off len cap xs w hh.1 hlen hb h1 (by omega)
end Go.Proofs.Ytpjplcbcbabbnaa
