/-
  Float words up to NaN: what the run of a float operation gives, and that it agrees with the operation's plain function, but for which NaN it is. No program in sight.
-/
import Derived.Laws.FloatArith
import Derived.Deep.Draws
import Derived.WalkLawsBesides
namespace Go.Proofs.Ytmfgffgfggkgcaa
open Go

/-- A word that is a NaN. -/
def isN (k : FloatKind) (x : Nat) : Bool := (k.decode x).isNaN

/-- The same word, or both NaN. -/
def FE (k : FloatKind) (x y : Nat) : Prop := x = y ∨ (isN k x = true ∧ isN k y = true)

theorem FE.refl (k : FloatKind) (x : Nat) : FE k x x := .inl rfl
theorem FE.symm {k : FloatKind} {x y : Nat} (h : FE k x y) : FE k y x := by
  rcases h with h | ⟨a, b⟩
  · exact .inl h.symm
  · exact .inr ⟨b, a⟩
theorem FE.trans {k : FloatKind} {x y z : Nat} (h : FE k x y) (g : FE k y z) : FE k x z := by
  rcases h with rfl | ⟨a, b⟩
  · exact g
  · rcases g with rfl | ⟨_, d⟩
    · exact .inr ⟨a, b⟩
    · exact .inr ⟨a, d⟩

/-- One NaN of a kind. -/
def qn : FloatKind → Nat
  | .f32 => 0x7fc00000
  | .f64 => 0x7ff8000000000000

theorem isN_qn (k : FloatKind) : isN k (qn k) = true := by cases k <;> decide +kernel

/-- The answer of the tape at an operation without an answer is a NaN. -/
theorem isN_nan (k : FloatKind) (x y t : Nat) : isN k ((Question.nanBits k x y).cut t) = true := by
  cases k
  · simp only [Question.cut]
    have h1 : (t / 2) % (2 ^ 23 - 1) < 2 ^ 23 - 1 := Nat.mod_lt _ (by decide)
    have h2 : t % 2 < 2 := Nat.mod_lt _ (by decide)
    generalize (t / 2) % (2 ^ 23 - 1) = r at *
    generalize t % 2 = s at *
    have hs : Ieee.single.signWeight = 2147483648 := by decide
    have hb : Ieee.single.binade = 8388608 := by decide
    have hi : Ieee.single.infRung = 2139095040 := by decide
    have hr : (s * 2 ^ 31 + 0x7f800000 + 1 + r) % 2147483648 = 2139095041 + r := by omega
    unfold isN FloatKind.decode FloatKind.format Ieee.Format.read
    simp only [hs, hb, hi, hr]
    rw [if_neg (by omega), if_neg (by omega), if_neg (by omega)]
    rfl
  · simp only [Question.cut]
    have h1 : (t / 2) % (2 ^ 52 - 1) < 2 ^ 52 - 1 := Nat.mod_lt _ (by decide)
    have h2 : t % 2 < 2 := Nat.mod_lt _ (by decide)
    generalize (t / 2) % (2 ^ 52 - 1) = r at *
    generalize t % 2 = s at *
    have hs : Ieee.double.signWeight = 9223372036854775808 := by decide
    have hb : Ieee.double.binade = 4503599627370496 := by decide
    have hi : Ieee.double.infRung = 9218868437227405312 := by decide
    have hr : (s * 2 ^ 63 + 0x7ff0000000000000 + 1 + r) % 9223372036854775808 = 9218868437227405313 + r := by omega
    unfold isN FloatKind.decode FloatKind.format Ieee.Format.read
    simp only [hs, hb, hi, hr]
    rw [if_neg (by omega), if_neg (by omega), if_neg (by omega)]
    rfl

theorem isN_conv (k : FloatKind) (x t : Nat) : isN k ((Question.nanConv k x).cut t) = true := by
  have := isN_nan k x x t
  cases k <;> simpa [Question.cut] using this

/-- An operation on words, a NaN where it has no answer. -/
def fop (op : BinOp) (k : FloatKind) (x y : Nat) : Nat := (floatBits op k x y).getD (qn k)

def isArith : BinOp → Bool
  | .add | .sub | .mul | .quo => true
  | _ => false

/-- What the run gives: the operation's word, or the NaN that the tape picks. -/
def fval (op : BinOp) (k : FloatKind) (x y : Nat) (w : World) : Nat :=
  match floatBits op k x y with
  | some r => r
  | none => (Question.nanBits k x y).cut (w.tape w.drawn (.nanBits k x y))
def fdn (op : BinOp) (k : FloatKind) (x y : Nat) : Nat := if (floatBits op k x y).isSome then 0 else 1

theorem floatBits_nan_left {op : BinOp} {k : FloatKind} {x y : Nat} (h : isN k x = true) : floatBits op k x y = none := by
  unfold isN FloatKind.decode at h
  unfold floatBits
  cases hx : k.format.read x with
  | number s m e => rw [hx] at h; cases h
  | infinity s => rw [hx] at h; cases h
  | nan s t => cases op <;> simp [Ieee.Format.add, Ieee.Format.sub, Ieee.Format.mul, Ieee.Format.div, hx, Ieee.Datum.sum, Ieee.Datum.product, Ieee.Datum.quotient]

theorem floatBits_nan_right {op : BinOp} {k : FloatKind} {x y : Nat} (h : isN k y = true) : floatBits op k x y = none := by
  unfold isN FloatKind.decode at h
  unfold floatBits
  cases hy : k.format.read y with
  | number s m e => rw [hy] at h; cases h
  | infinity s => rw [hy] at h; cases h
  | nan s t =>
    cases hx : k.format.read x <;> cases op <;> simp [Ieee.Format.add, Ieee.Format.sub, Ieee.Format.mul, Ieee.Format.div, hx, hy, Ieee.Datum.sum, Ieee.Datum.product, Ieee.Datum.quotient, Ieee.Datum.opposite]

theorem floatBits_FE {op : BinOp} {k : FloatKind} {x x' y y' : Nat} (hx : FE k x x') (hy : FE k y y') : floatBits op k x y = floatBits op k x' y' := by
  rcases hx with rfl | ⟨a, b⟩
  · rcases hy with rfl | ⟨c, d⟩
    · rfl
    · rw [floatBits_nan_right c, floatBits_nan_right d]
  · rw [floatBits_nan_left a, floatBits_nan_left b]

theorem fop_FE {op : BinOp} {k : FloatKind} {x x' y y' : Nat} (hx : FE k x x') (hy : FE k y y') : fop op k x y = fop op k x' y' := by
  unfold fop; rw [floatBits_FE hx hy]

theorem fval_FE {op : BinOp} {k : FloatKind} {x x' y y' : Nat} (hx : FE k x x') (hy : FE k y y') (w : World) : FE k (fval op k x y w) (fop op k x' y') := by
  rw [← fop_FE hx hy]
  unfold fval fop
  cases h : floatBits op k x y with
  | some r => exact .inl rfl
  | none => exact .inr ⟨isN_nan k x y _, isN_qn k⟩

theorem order_nan_left {k : FloatKind} {x y : Nat} (h : isN k x = true) : k.format.order x y = none := by
  unfold isN FloatKind.decode at h
  unfold Ieee.Format.order
  cases hx : k.format.read x with
  | number s m e => rw [hx] at h; cases h
  | infinity s => rw [hx] at h; cases h
  | nan s t => simp [Ieee.Datum.order]
theorem order_nan_right {k : FloatKind} {x y : Nat} (h : isN k y = true) : k.format.order x y = none := by
  unfold isN FloatKind.decode at h
  unfold Ieee.Format.order
  cases hy : k.format.read y with
  | number s m e => rw [hy] at h; cases h
  | infinity s => rw [hy] at h; cases h
  | nan s t => cases hx : k.format.read x <;> simp [Ieee.Datum.order]
theorem order_FE {k : FloatKind} {x x' y y' : Nat} (hx : FE k x x') (hy : FE k y y') : k.format.order x y = k.format.order x' y' := by
  rcases hx with rfl | ⟨a, b⟩
  · rcases hy with rfl | ⟨c, d⟩
    · rfl
    · rw [order_nan_right c, order_nan_right d]
  · rw [order_nan_left a, order_nan_left b]

section
variable {P : Program} (w : World)
theorem run_float_any (op : BinOp) (ho : isArith op = true) (t : TypeId) (k : FloatKind) (x y : Nat) :
    (binOp op t (.float k x) (.float k y)).run P w = .ok (.float k (fval op k x y w)) (w.drewN (fdn op k x y)) := by
  have hf : (Question.nanBits k x y).forced = false := rfl
  have main : ∀ r : Option Nat, (match r with
    | some r => (pure (.float k r) : Sem Value)
    | none => do pure (.float k (← choose (.nanBits k x y)))).run P w = .ok (.float k (match r with
    | some r => r
    | none => (Question.nanBits k x y).cut (w.tape w.drawn (.nanBits k x y)))) (w.drewN (if r.isSome then 0 else 1)) := by
    intro r
    cases r with
    | some r => rfl
    | none => rfl
  have := main (floatBits op k x y)
  unfold fval fdn
  rw [← this]
  cases op <;> first | (cases ho; done) | (simp only [binOp, Op.floatArith, floatBits, ne_eq, not_true, if_false]; rfl)
@[go_sem] theorem run_fadd (t : TypeId) (k : FloatKind) (x y : Nat) :
    (binOp .add t (.float k x) (.float k y)).run P w = .ok (.float k (fval .add k x y w)) (w.drewN (fdn .add k x y)) := run_float_any w .add rfl t k x y
@[go_sem] theorem run_fsub (t : TypeId) (k : FloatKind) (x y : Nat) :
    (binOp .sub t (.float k x) (.float k y)).run P w = .ok (.float k (fval .sub k x y w)) (w.drewN (fdn .sub k x y)) := run_float_any w .sub rfl t k x y
@[go_sem] theorem run_fmul (t : TypeId) (k : FloatKind) (x y : Nat) :
    (binOp .mul t (.float k x) (.float k y)).run P w = .ok (.float k (fval .mul k x y w)) (w.drewN (fdn .mul k x y)) := run_float_any w .mul rfl t k x y
@[go_sem] theorem run_fquo (t : TypeId) (k : FloatKind) (x y : Nat) :
    (binOp .quo t (.float k x) (.float k y)).run P w = .ok (.float k (fval .quo k x y w)) (w.drewN (fdn .quo k x y)) := run_float_any w .quo rfl t k x y
end

/-! ### Conversions -/
/-- float to float, open where the number is a NaN or too great. -/
def cval (s : FloatKind) (b : Nat) (k : FloatKind) (w : World) : Nat :=
  match floatToFloatBits s b k with
  | some r => r
  | none => if isN s b then (Question.nanConv k b).cut (w.tape w.drawn (.nanConv k b)) else (Question.floatToFloat b).cut (w.tape w.drawn (.floatToFloat b))
def cdn (s : FloatKind) (b : Nat) (k : FloatKind) : Nat := if (floatToFloatBits s b k).isSome then 0 else 1
def cop (s : FloatKind) (b : Nat) (k : FloatKind) : Nat := (floatToFloatBits s b k).getD (qn k)

theorem run_floatToFloat_any {P : Program} (s k : FloatKind) (b : Nat) (w : World) :
    (Conv.floatToFloat s b k).run P w = .ok (.float k (cval s b k w)) (w.drewN (cdn s b k)) := by
  unfold cval cdn
  cases h : floatToFloatBits s b k with
  | some r => rw [run_floatToFloat w h]; rfl
  | none =>
    unfold floatToFloatBits at h
    split at h
    · cases h
    · rename_i ne
      split at h
      · rename_i sg t hd
        have hn : isN s b = true := by unfold isN; rw [hd]; rfl
        simp only [Conv.floatToFloat, ne, if_false, hd, hn, if_true]
        rfl
      · cases h
      · rename_i sg m e hd
        split at h
        · rename_i ho
          have hn : isN s b = false := by unfold isN; rw [hd]; rfl
          simp only [Conv.floatToFloat, ne, if_false, hd, ho, if_true, hn]
          rfl
        · cases h

/-- The conversion has no open answer, but for a NaN. -/
def cfits (s : FloatKind) (b : Nat) (k : FloatKind) : Prop := isN s b = true ∨ (floatToFloatBits s b k).isSome = true

theorem conv_nan {s : FloatKind} {b : Nat} {k : FloatKind} (hne : s ≠ k) (h : isN s b = true) : floatToFloatBits s b k = none := by
  unfold isN at h
  unfold floatToFloatBits
  rw [if_neg hne]
  cases hd : s.decode b with
  | number sg m e => rw [hd] at h; cases h
  | infinity sg => rw [hd] at h; cases h
  | nan sg t => rfl

theorem cval_FE {s : FloatKind} {b b' : Nat} {k : FloatKind} (hne : s ≠ k) (hb : FE s b b') (hf : cfits s b k) (w : World) : FE k (cval s b k w) (cop s b' k) := by
  have hb' : ∀ c, isN s c = true → cop s c k = qn k := fun c hc => by unfold cop; rw [conv_nan hne hc]; rfl
  rcases hb with rfl | ⟨h1, h2⟩
  · unfold cval cop
    cases h : floatToFloatBits s b k with
    | some r => exact .inl rfl
    | none =>
      rcases hf with hf | hf
      · simp only [hf, if_true]; exact .inr ⟨isN_conv k b _, isN_qn k⟩
      · rw [h] at hf; cases hf
  · rw [hb' _ h2]
    unfold cval
    rw [conv_nan hne h1]
    simp only [h1, if_true]
    exact .inr ⟨isN_conv k b _, isN_qn k⟩

/-! ### What flows into a test or a further operation may be taken plain -/
theorem fval_self (op : BinOp) (k : FloatKind) (x y : Nat) (w : World) : FE k (fval op k x y w) (fop op k x y) := fval_FE (FE.refl _ _) (FE.refl _ _) w
@[go_sem] theorem order_fval_left (op : BinOp) (k : FloatKind) (x y z : Nat) (w : World) : k.format.order (fval op k x y w) z = k.format.order (fop op k x y) z := order_FE (fval_self ..) (FE.refl _ _)
@[go_sem] theorem order_fval_right (op : BinOp) (k : FloatKind) (x y z : Nat) (w : World) : k.format.order z (fval op k x y w) = k.format.order z (fop op k x y) := order_FE (FE.refl _ _) (fval_self ..)
@[go_sem] theorem fop_fval_left (op op' : BinOp) (k : FloatKind) (x y z : Nat) (w : World) : fop op k (fval op' k x y w) z = fop op k (fop op' k x y) z := fop_FE (fval_self ..) (FE.refl _ _)
@[go_sem] theorem fop_fval_right (op op' : BinOp) (k : FloatKind) (x y z : Nat) (w : World) : fop op k z (fval op' k x y w) = fop op k z (fop op' k x y) := fop_FE (FE.refl _ _) (fval_self ..)
/-- To a plain term: the operation at the end is taken plain, the rest by the rules above. -/
theorem fval_to {op : BinOp} {k : FloatKind} {x y s : Nat} {w : World} (h : FE k (fop op k x y) s) : FE k (fval op k x y w) s := (fval_self op k x y w).trans h
theorem FE.of_eq {k : FloatKind} {x y : Nat} (h : x = y) : FE k x y := .inl h

theorem order_self {k : FloatKind} {x : Nat} (h : isN k x = false) : k.format.order x x = some .eq := by
  unfold isN FloatKind.decode at h
  unfold Ieee.Format.order
  cases hx : k.format.read x with
  | number s m e => simp [Ieee.Datum.order]
  | infinity s => cases s <;> rfl
  | nan s t => rw [hx] at h; cases h

/-! ### Words fit their kind -/
theorem fval_wf (op : BinOp) (k : FloatKind) (x y : Nat) (w : World) : (Lit.float k (fval op k x y w)).wf = true := by
  unfold fval
  cases h : floatBits op k x y with
  | some r => exact floatBits_wf h
  | none =>
    refine wf_of_lt k _ ?_
    cases k
    · show (Question.nanBits .f32 x y).cut _ < 2 ^ 32
      simp only [Question.cut]; omega
    · show (Question.nanBits .f64 x y).cut _ < 2 ^ 64
      simp only [Question.cut]; omega

section
variable {P : Program} (w : World)
@[go_sem] theorem run_convert_ff (src dst : TypeId) (s k : FloatKind) (b : Nat) (hs : (P.underlying src).isSome = true) (hd : P.underlying dst = some (.float k)) :
    (convert src dst (.float s b)).run P w = .ok (.float k (cval s b k w)) (w.drewN (cdn s b k)) := by
  obtain ⟨u, hs'⟩ := Option.isSome_iff_exists.1 hs
  have h := run_floatToFloat_any (P := P) s k b w
  cases u <;> simp [convert, run_underlying hs', run_underlying hd, h]
end
@[go_sem] theorem unary_fneg (k : FloatKind) (b : Nat) : Op.unary .neg (.float k b) = pure (.float k (Op.negFloat k b)) := rfl
theorem vint {k : IntKind} {a b : Int} (h : a = b) : Value.int k a = Value.int k b := by rw [h]
theorem ret_int {k : IntKind} {a b : Int} (h : a = b) : Ending.returned (.int k a) = .returned (.int k b) := by rw [h]
theorem bounds64 {n : Int} (h : (Lit.int .i64 n).wf = true) : -9223372036854775808 ≤ n ∧ n ≤ 9223372036854775807 := by
  simp [Lit.wf, IntKind.min, IntKind.max, IntKind.signed, IntKind.bits] at h
  exact h
end Go.Proofs.Ytmfgffgfggkgcaa
