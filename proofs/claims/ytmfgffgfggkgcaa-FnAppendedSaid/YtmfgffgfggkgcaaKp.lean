/-
  Worlds in which, of the blocks that were there, one alone may have been written. No program in sight.
-/
import Derived.Test.YtmfgffgfggkgcaaSl
import Derived.Laws.Bits128
import Derived.Laws.Rows
namespace Go.Proofs.Ytmfgffgfggkgcaa
open Go Go.RowKit

/-- w' is w, but for block c and for new blocks. -/
structure Kp (c : Nat) (w w' : World) : Prop where
  os : w'.os = w.os
  tape : w'.tape = w.tape
  output : w'.output = w.output
  size : w.heap.size ≤ w'.heap.size
  block : ∀ k, k < w.heap.size → k ≠ c → w'.heap[k]? = w.heap[k]?
theorem Kp.refl (c : Nat) (w : World) : Kp c w w := ⟨rfl, rfl, rfl, Nat.le_refl _, fun _ _ _ => rfl⟩
theorem Kp.trans {c : Nat} {w1 w2 w3 : World} (h : Kp c w1 w2) (k : Kp c w2 w3) : Kp c w1 w3 :=
  ⟨k.os.trans h.os, k.tape.trans h.tape, k.output.trans h.output, Nat.le_trans h.size k.size, fun i hi hc => (k.block i (Nat.lt_of_lt_of_le hi h.size) hc).trans (h.block i hi hc)⟩
theorem Kp.drewN {c n : Nat} {w w' : World} (h : Kp c w w') : Kp c w (w'.drewN n) := ⟨h.os, h.tape, h.output, h.size, h.block⟩
theorem Kp.drew {c : Nat} {w w' : World} (h : Kp c w w') : Kp c w w'.drew := ⟨h.os, h.tape, h.output, h.size, h.block⟩
theorem Kp.setCell {c j : Nat} {w w' : World} (h : Kp c w w') (v : Value) : Kp c w (w'.setCell ⟨c, j, none⟩ v) :=
  h.trans ⟨rfl, rfl, rfl, by simp, fun k _ hc => heap_setCell_other _ _ _ _ hc⟩
theorem Kp.alloc {c : Nat} {w w' : World} (h : Kp c w w') (o : Obj) : Kp c w (w'.alloc o) :=
  h.trans ⟨rfl, rfl, rfl, by simp, fun k hk _ => Below.heap_alloc _ _ _ hk⟩
theorem Kp.of_below {c : Nat} {w w' : World} (h : Below w.heap.size w w') : Kp c w w' := ⟨h.os, h.tape, h.output, h.size, fun k hk _ => h.block k hk⟩
theorem Kp.below {c B : Nat} {w w' : World} (h : Kp c w w') (h1 : B ≤ c) (h2 : B ≤ w.heap.size) : Below B w w' :=
  ⟨h.os, h.tape, h.output, h.size, fun k hk => h.block k (by omega) (by omega)⟩
theorem Kp.holds {c b off : Nat} {w w' : World} {xs : List Value} (h : Kp c w w') (hh : Holds w b off xs) (hb : b ≠ c) : Holds w' b off xs := fun i hi => by
  have hl := hh.lt (by omega)
  rw [World.cell?_of_block (w := w) (h.block b hl hb)]
  exact hh i hi
theorem Kp.heap {c b : Nat} {w w' : World} {o : Obj} (h : Kp c w w') (hh : w.heap[b]? = some o) (hb : b ≠ c) : w'.heap[b]? = some o := by
  have hl : b < w.heap.size := (Array.getElem?_eq_some_iff.1 hh).1
  rw [h.block b hl hb]; exact hh

theorem i64_and255 (n : Int) : bits .and .i64 n 255 = n % 256 := by
  have h127 : (BitVec.ofInt 64 255).toNat = 2 ^ 8 - 1 := by decide
  have key : (BitVec.ofInt 64 n &&& BitVec.ofInt 64 255).toNat = (n % ((2 ^ 64 : Nat) : Int)).toNat % 2 ^ 8 := by
    rw [BitVec.toNat_and, BitVec.toNat_ofInt, h127, Nat.and_two_pow_sub_one_eq_mod]
  show IntKind.i64.wrap ((BitVec.ofInt 64 n &&& BitVec.ofInt 64 255).toNat : Nat) = n % 256
  rw [key, IntKind.wrap_i64]
  omega

/-- A slice of bytes. -/
def byteV (x : Nat) : Value := .int .u8 (x : Int)
theorem IsBytes_lt {xs : List Value} (h : ∀ x ∈ xs, ∃ u : Nat, u < 256 ∧ x = byteV u) {i : Nat} (hi : i < xs.length) : ∃ u : Nat, u < 256 ∧ xs[i] = byteV u := h _ (List.getElem_mem hi)
end Go.Proofs.Ytmfgffgfggkgcaa
