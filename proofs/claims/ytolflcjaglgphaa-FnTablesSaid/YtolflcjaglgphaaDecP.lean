/-
  Grids of small whole numbers: their points, those turned by a quarter, and which point is nearest. Plain. No program in sight.
-/
import Derived.Test.YtolflcjaglgphaaNearP
import Derived.Test.YtolflcjaglgphaaGrid
namespace Go.Proofs.Ytolflcjaglgphaa
open Go
/-- The words that stand for a whole number. -/
def ws (n : Int) : List Nat := if n = 0 then [0, 2147483648] else [floatOfInt .f32 n]
def rg (n i : Nat) : Int := (i : Int) - n
def subChk (i j : Nat) : Bool := (ws (rg 7 i)).all fun x => (ws (rg 7 j)).all fun y => (ws (rg 7 i - rg 7 j)).contains (fop .sub .f32 x y)
def eqChk (i j : Nat) : Bool := (ws (rg 7 i)).all fun x => (ws (rg 7 j)).all fun y => eqS x y == decide (rg 7 i = rg 7 j)
def mulChk (i : Nat) : Bool := (ws (rg 14 i)).all fun x => (ws (rg 14 i * rg 14 i)).contains (fop .mul .f32 x x)
def addChk (i j : Nat) : Bool := (ws ((i * i : Nat) : Int)).all fun x => (ws ((j * j : Nat) : Int)).all fun y => (ws ((i * i + j * j : Nat) : Int)).contains (fop .add .f32 x y)
def posChk (i : Nat) : Bool := (ws (i : Int)).all fun x => eqS x x && !(ltS x 0) && !(ltS x 2147483648) && (i == 0 || ltS 0 x && ltS 2147483648 x)
def turnChk (i j : Nat) : Bool := match mulP (floatOfInt .f32 (rg 7 i), floatOfInt .f32 (rg 7 j)) (0, 1065353216) with
  | some r => (ws (- rg 7 j)).contains r.1 && (ws (rg 7 i)).contains r.2
  | none => false
def finChk (i : Nat) : Bool := (ws (rg 7 i)).all fun x => finS x && decide (x < 4294967296)
theorem sub_tab : (List.range 15).all (fun i => (List.range 15).all (subChk i)) = true := by decide +kernel
theorem eq_tab : (List.range 15).all (fun i => (List.range 15).all (eqChk i)) = true := by decide +kernel
theorem mul_tab : (List.range 29).all mulChk = true := by decide +kernel
theorem add_tab : (List.range 15).all (fun i => (List.range 15).all (addChk i)) = true := by decide +kernel
theorem pos_tab : (List.range 393).all posChk = true := by decide +kernel
theorem turn_tab : (List.range 15).all (fun i => (List.range 15).all (turnChk i)) = true := by decide +kernel
theorem fin_tab : (List.range 15).all finChk = true := by decide +kernel

theorem all_rg {n : Nat} {p : Nat → Bool} (h : (List.range n).all p = true) {i : Nat} (hi : i < n) : p i = true := List.all_eq_true.1 h i (List.mem_range.2 hi)
theorem rg_of {n : Nat} {a : Int} (h1 : -(n : Int) ≤ a) (h2 : a ≤ n) : ∃ i, i < 2 * n + 1 ∧ rg n i = a := ⟨(a + n).toNat, by omega, by unfold rg; omega⟩
theorem sub_is {a b : Int} {x y : Nat} (ha : -7 ≤ a ∧ a ≤ 7) (hb : -7 ≤ b ∧ b ≤ 7) (hx : x ∈ ws a) (hy : y ∈ ws b) : fop .sub .f32 x y ∈ ws (a - b) := by
  obtain ⟨i, hi, rfl⟩ := rg_of (n := 7) (by omega) (by omega : a ≤ 7)
  obtain ⟨j, hj, rfl⟩ := rg_of (n := 7) (by omega) (by omega : b ≤ 7)
  have h := all_rg (all_rg sub_tab hi) hj
  unfold subChk at h
  exact List.contains_iff_mem.1 (List.all_eq_true.1 (List.all_eq_true.1 h x hx) y hy)
theorem eq_is {a b : Int} {x y : Nat} (ha : -7 ≤ a ∧ a ≤ 7) (hb : -7 ≤ b ∧ b ≤ 7) (hx : x ∈ ws a) (hy : y ∈ ws b) : eqS x y = decide (a = b) := by
  obtain ⟨i, hi, rfl⟩ := rg_of (n := 7) (by omega) (by omega : a ≤ 7)
  obtain ⟨j, hj, rfl⟩ := rg_of (n := 7) (by omega) (by omega : b ≤ 7)
  have h := all_rg (all_rg eq_tab hi) hj
  unfold eqChk at h
  exact eq_of_beq (List.all_eq_true.1 (List.all_eq_true.1 h x hx) y hy)
theorem mul_is {a : Int} {x : Nat} (ha : -14 ≤ a ∧ a ≤ 14) (hx : x ∈ ws a) : fop .mul .f32 x x ∈ ws (a * a) := by
  obtain ⟨i, hi, rfl⟩ := rg_of (n := 14) (by omega) (by omega : a ≤ 14)
  have h := all_rg mul_tab hi
  unfold mulChk at h
  exact List.contains_iff_mem.1 (List.all_eq_true.1 h x hx)
theorem add_is {i j x y : Nat} (hi : i < 15) (hj : j < 15) (hx : x ∈ ws ((i * i : Nat) : Int)) (hy : y ∈ ws ((j * j : Nat) : Int)) : fop .add .f32 x y ∈ ws ((i * i + j * j : Nat) : Int) := by
  have h := all_rg (all_rg add_tab hi) hj
  unfold addChk at h
  exact List.contains_iff_mem.1 (List.all_eq_true.1 (List.all_eq_true.1 h x hx) y hy)
theorem pos_is {D x : Nat} (hD : D < 393) (hx : x ∈ ws (D : Int)) : eqS x x = true ∧ (∀ y ∈ ws 0, ltS x y = false) ∧ (D ≠ 0 → ∀ y ∈ ws 0, ltS y x = true) := by
  have h := all_rg pos_tab hD
  unfold posChk at h
  have h := List.all_eq_true.1 h x hx
  simp only [Bool.and_eq_true, Bool.not_eq_true', Bool.or_eq_true, beq_iff_eq] at h
  obtain ⟨⟨⟨h1, h2⟩, h3⟩, h4⟩ := h
  have hw : ws 0 = [0, 2147483648] := rfl
  refine ⟨h1, fun y hy => ?_, fun hne y hy => ?_⟩
  · rw [hw] at hy
    simp only [List.mem_cons, List.not_mem_nil, or_false] at hy
    rcases hy with rfl | rfl
    · exact h2
    · exact h3
  · rw [hw] at hy
    simp only [List.mem_cons, List.not_mem_nil, or_false] at hy
    rcases h4 with h4 | h4
    · exact absurd h4 hne
    · rcases hy with rfl | rfl
      · exact h4.1
      · exact h4.2
theorem fin_is {a : Int} {x : Nat} (ha : -7 ≤ a ∧ a ≤ 7) (hx : x ∈ ws a) : finS x = true ∧ x < 4294967296 := by
  obtain ⟨i, hi, rfl⟩ := rg_of (n := 7) (by omega) (by omega : a ≤ 7)
  have h := all_rg fin_tab hi
  unfold finChk at h
  have h := List.all_eq_true.1 h x hx
  simp only [Bool.and_eq_true, decide_eq_true_eq] at h
  exact h
theorem ws_self (a : Int) : floatOfInt .f32 a ∈ ws a := by
  unfold ws
  split
  · rename_i h; subst h; exact List.mem_cons.2 (.inl rfl)
  · exact List.mem_cons.2 (.inl rfl)
theorem turn_is {a b : Int} (ha : -7 ≤ a ∧ a ≤ 7) (hb : -7 ≤ b ∧ b ≤ 7) : ∃ r, mulP (floatOfInt .f32 a, floatOfInt .f32 b) (0, 1065353216) = some r ∧ r.1 ∈ ws (-b) ∧ r.2 ∈ ws a := by
  obtain ⟨i, hi, rfl⟩ := rg_of (n := 7) (by omega) (by omega : a ≤ 7)
  obtain ⟨j, hj, rfl⟩ := rg_of (n := 7) (by omega) (by omega : b ≤ 7)
  have h := all_rg (all_rg turn_tab hi) hj
  unfold turnChk at h
  cases hm : mulP (floatOfInt .f32 (rg 7 i), floatOfInt .f32 (rg 7 j)) (0, 1065353216) with
  | none => rw [hm] at h; cases h
  | some r =>
    rw [hm] at h
    simp only [Bool.and_eq_true] at h
    exact ⟨r, rfl, List.contains_iff_mem.1 h.1, List.contains_iff_mem.1 h.2⟩

/-- A point that stands for a pair of small whole numbers. -/
def IsP (p : Nat × Nat) (c : Int × Int) : Prop := p.1 ∈ ws c.1 ∧ p.2 ∈ ws c.2 ∧ (-7 ≤ c.1 ∧ c.1 ≤ 7) ∧ (-7 ≤ c.2 ∧ c.2 ≤ 7)
theorem ceq_is {p q : Nat × Nat} {c e : Int × Int} (hp : IsP p c) (hq : IsP q e) : ceq p q = decide (c = e) := by
  have h1 : (FloatKind.f32.format.order p.1 q.1 == some .eq) = decide (c.1 = e.1) := eq_is hp.2.2.1 hq.2.2.1 hp.1 hq.1
  have h2 : (FloatKind.f32.format.order p.2 q.2 == some .eq) = decide (c.2 = e.2) := eq_is hp.2.2.2 hq.2.2.2 hp.2.1 hq.2.1
  unfold ceq
  rw [h1, h2, ← Bool.decide_and]
  exact decide_eq_decide.2 Prod.ext_iff.symm
theorem cfin_is {p : Nat × Nat} {c : Int × Int} (hp : IsP p c) : cfin p = true ∧ p.1 < 4294967296 ∧ p.2 < 4294967296 := by
  have h1 := fin_is hp.2.2.1 hp.1
  have h2 := fin_is hp.2.2.2 hp.2.1
  exact ⟨by unfold cfin; rw [h1.1, h2.1]; rfl, h1.2, h2.2⟩
theorem sq_is (a : Int) : a * a = ((a.natAbs * a.natAbs : Nat) : Int) := by rw [Int.natCast_mul, Int.natAbs_mul_self']
theorem dist_is {p z : Nat × Nat} {c e : Int × Int} (hp : IsP p c) (hz : IsP z e) : ∃ D : Nat, D < 393 ∧ distP p z ∈ ws (D : Int) ∧ (D = 0 ↔ c = e) := by
  have h1 := mul_is (by have := hp.2.2.1; have := hz.2.2.1; omega) (sub_is hp.2.2.1 hz.2.2.1 hp.1 hz.1)
  have h2 := mul_is (by have := hp.2.2.2; have := hz.2.2.2; omega) (sub_is hp.2.2.2 hz.2.2.2 hp.2.1 hz.2.1)
  have b1 : (c.1 - e.1).natAbs < 15 := by have := hp.2.2.1; have := hz.2.2.1; omega
  have b2 : (c.2 - e.2).natAbs < 15 := by have := hp.2.2.2; have := hz.2.2.2; omega
  rw [sq_is] at h1 h2
  refine ⟨_, ?_, add_is b1 b2 h1 h2, ?_⟩
  · have m1 : (c.1 - e.1).natAbs * (c.1 - e.1).natAbs ≤ 14 * 14 := Nat.mul_le_mul (by omega) (by omega)
    have m2 : (c.2 - e.2).natAbs * (c.2 - e.2).natAbs ≤ 14 * 14 := Nat.mul_le_mul (by omega) (by omega)
    omega
  · constructor
    · intro h
      have z1 : (c.1 - e.1).natAbs * (c.1 - e.1).natAbs = 0 := by omega
      have z2 : (c.2 - e.2).natAbs * (c.2 - e.2).natAbs = 0 := by omega
      have z1 : (c.1 - e.1).natAbs = 0 := by rcases Nat.mul_eq_zero.1 z1 with h | h <;> exact h
      have z2 : (c.2 - e.2).natAbs = 0 := by rcases Nat.mul_eq_zero.1 z2 with h | h <;> exact h
      exact Prod.ext_iff.2 ⟨by omega, by omega⟩
    · rintro rfl
      simp
theorem near_is {ps : List (Nat × Nat)} {z : Nat × Nat} {cs : Nat → Int × Int} {j : Nat} (hj : j < ps.length) (hps : ∀ k (hk : k < ps.length), IsP ps[k] (cs k)) (hz : IsP z (cs j)) (hne : ∀ k, k < ps.length → k ≠ j → cs k ≠ cs j) : nearI ps z = j := by
  have d0 : ∀ k (hk : k < ps.length), k ≠ j → ∃ D : Nat, D < 393 ∧ distP ps[k] z ∈ ws (D : Int) ∧ D ≠ 0 := fun k hk hkj => by
    obtain ⟨D, h1, h2, h3⟩ := dist_is (hps k hk) hz
    exact ⟨D, h1, h2, fun h => hne k hk hkj (h3.1 h)⟩
  have dj : distP ps[j] z ∈ ws 0 := by
    obtain ⟨D, h1, h2, h3⟩ := dist_is (hps j hj) hz
    rw [h3.2 rfl] at h2; exact h2
  have low : ∀ k, k ≤ j → (nearTo ps z k).1 < 0 ∨ ∃ L : Nat, L < 393 ∧ (nearTo ps z k).2 ∈ ws (L : Int) ∧ L ≠ 0 := by
    intro k
    induction k with
    | zero => intro _; left; rw [near_zero]; decide
    | succ k ih =>
      intro hk
      cases h : takes z (nearTo ps z k) ps[k] with
      | true => right; rw [near_hit (by omega) h]; exact d0 k (by omega) (by omega)
      | false => rw [near_miss (by omega) h]; exact ih (by omega)
  have at1 : takes z (nearTo ps z j) ps[j] = true := by
    have hp := pos_is (D := 0) (by omega) dj
    unfold takes
    rw [hp.1]
    rcases low j (Nat.le_refl _) with h | ⟨L, h1, h2, h3⟩
    · rw [decide_eq_true h]; rfl
    · rw [(pos_is h1 h2).2.2 h3 _ dj]; simp
  have high : ∀ m, j + 1 + m ≤ ps.length → nearTo ps z (j + 1 + m) = ((j : Int), distP ps[j] z) := by
    intro m
    induction m with
    | zero => intro _; exact near_hit hj at1
    | succ m ih =>
      intro hm
      have hi := ih (by omega)
      have hk : j + 1 + m < ps.length := by omega
      obtain ⟨D, h1, h2, _⟩ := d0 (j + 1 + m) hk (by omega)
      have : takes z (nearTo ps z (j + 1 + m)) ps[j + 1 + m] = false := by
        unfold takes
        rw [hi, (pos_is h1 h2).2.1 _ dj]
        simp
      rw [show j + 1 + (m + 1) = (j + 1 + m) + 1 by omega, near_miss hk this]; exact hi
  rw [nearI_to]
  have := high (ps.length - (j + 1)) (by omega)
  rw [show j + 1 + (ps.length - (j + 1)) = ps.length by omega] at this
  rw [this]
theorem tab_is {ps : List (Nat × Nat)} {cs : Nat → Int × Int} {n : Nat} (hn : n ≤ 64) (hl : ps.length = n) (hps : ∀ k (hk : k < ps.length), IsP ps[k] (cs k)) (hne : ∀ k j, k < n → j < n → k ≠ j → cs k ≠ cs j) : isTab ps n = true := by
  refine decide_eq_true ⟨hl, by omega, fun i hi => ⟨(cfin_is (hps i hi)).1, fun k hk => ?_⟩⟩
  rw [ceq_is (hps k (by omega)) (hps i hi)]
  exact decide_eq_false (hne k i (by omega) (by omega) (by omega))

/-- The pair of a place in a grid. -/
def gc (s m : Nat) : Int × Int := (2 * ((m / s : Nat) : Int) - s + 1, 2 * ((m % s : Nat) : Int) - s + 1)
def gt (s m : Nat) : Int × Int := (-(gc s m).2, (gc s m).1)
/-- Where a place goes, turned by a quarter. -/
def gs (s m : Nat) : Nat := (s - 1 - m % s) * s + m / s
theorem grid_get {α : Type} (f : Nat → Nat → α) {s : Nat} (_hs : 0 < s) (i m : Nat) (hm : m < i * s) : (grid f s i 0)[m]? = some (f (m / s) (m % s)) := by
  induction i with
  | zero => omega
  | succ i ih =>
    rw [← grid_row]
    have hg : grid f s i s = grid f s i 0 ++ (List.range s).map (f i) := by unfold grid; simp
    rw [hg]
    have hl : (grid f s i 0).length = i * s := by rw [grid_len]; omega
    by_cases h : m < i * s
    · rw [List.getElem?_append_left (by omega)]; exact ih h
    · rw [List.getElem?_append_right (by omega), hl, List.getElem?_map]
      have hms : m < i * s + s := by rw [← Nat.succ_mul]; exact hm
      rw [List.getElem?_range (by omega)]
      have e1 : m / s = i := by
        refine Nat.div_eq_of_lt_le (by omega) (by rw [Nat.succ_mul]; omega)
      have e2 : m % s = m - i * s := by
        have := Nat.div_add_mod m s
        rw [e1, Nat.mul_comm] at this
        omega
      rw [e1, e2]; rfl
def gps (s : Nat) : List (Nat × Nat) := grid (gp s) s s 0
def lbs (s : Nat) : List Int := (List.range (s * s)).map (Int.ofNat ·)
def tq (p : Nat × Nat) : Nat × Nat := (mulP p (0, 1065353216)).getD (0, 0)
def gts (s : Nat) : List (Nat × Nat) := (gps s).map tq
theorem gps_len (s : Nat) : (gps s).length = s * s := by unfold gps; rw [grid_len]; omega
theorem gts_len (s : Nat) : (gts s).length = s * s := by unfold gts; rw [List.length_map, gps_len]
theorem lbs_len (s : Nat) : (lbs s).length = s * s := by simp [lbs]
theorem lbs_at {s m : Nat} (h : m < (lbs s).length) : (lbs s)[m] = (m : Int) := by
  have h2 := List.getElem?_eq_getElem h
  have h3 : (lbs s)[m]? = some (m : Int) := by
    unfold lbs
    rw [List.getElem?_map, List.getElem?_range (by rwa [lbs_len] at h)]; rfl
  exact Option.some.inj (h2.symm.trans h3)
section
variable {s : Nat} (h1 : 1 ≤ s) (h8 : s ≤ 8)
include h1 h8
theorem div_lt {m : Nat} (hm : m < s * s) : m / s < s := (Nat.div_lt_iff_lt_mul (by omega)).2 hm
theorem gps_at {m : Nat} (hm : m < (gps s).length) : (gps s)[m] = (floatOfInt .f32 (gc s m).1, floatOfInt .f32 (gc s m).2) := by
  have := grid_get (gp s) (by omega : 0 < s) s m (by rw [← gps_len]; exact hm)
  have h2 := List.getElem?_eq_getElem hm
  exact Option.some.inj (h2.symm.trans this)
theorem gc_bd {m : Nat} (hm : m < s * s) : (-7 ≤ (gc s m).1 ∧ (gc s m).1 ≤ 7) ∧ (-7 ≤ (gc s m).2 ∧ (gc s m).2 ≤ 7) := by
  have a := div_lt h1 h8 hm
  have b := Nat.mod_lt m (by omega : 0 < s)
  unfold gc
  generalize m / s = u at *
  generalize m % s = v at *
  constructor <;> constructor <;> simp only <;> omega
theorem gps_is {m : Nat} (hm : m < (gps s).length) : IsP (gps s)[m] (gc s m) := by
  rw [gps_at h1 h8 hm]
  have := gc_bd h1 h8 (by rwa [gps_len] at hm)
  exact ⟨ws_self _, ws_self _, this.1, this.2⟩
theorem gts_some {m : Nat} (hm : m < (gps s).length) : mulP (gps s)[m] (0, 1065353216) = some ((gts s)[m]'(by rw [gts_len, ← gps_len]; exact hm)) ∧ IsP ((gts s)[m]'(by rw [gts_len, ← gps_len]; exact hm)) (gt s m) := by
  have hb := gc_bd h1 h8 (by rwa [gps_len] at hm)
  obtain ⟨r, hr, r1, r2⟩ := turn_is hb.1 hb.2
  rw [← gps_at h1 h8 hm] at hr
  have he : (gts s)[m]'(by rw [gts_len, ← gps_len]; exact hm) = r := by
    unfold gts
    rw [List.getElem_map]
    unfold tq
    rw [hr]; rfl
  rw [he]
  exact ⟨hr, r1, r2, ⟨by have := hb.2; unfold gt; simp only; omega, by have := hb.2; unfold gt; simp only; omega⟩, hb.1⟩
omit h1 h8 in
theorem gc_inj {m k : Nat} (he : gc s m = gc s k) : m = k := by
  unfold gc at he
  simp only [Prod.mk.injEq] at he
  have e1 : m / s = k / s := by omega
  have e2 : m % s = k % s := by omega
  rw [← Nat.div_add_mod m s, ← Nat.div_add_mod k s, e1, e2]
omit h1 h8 in
theorem gt_inj {m k : Nat} (he : gt s m = gt s k) : m = k := by
  unfold gt at he
  simp only [Prod.mk.injEq] at he
  exact gc_inj (Prod.ext_iff.2 ⟨he.2, by omega⟩)
theorem gs_lt {m : Nat} (hm : m < s * s) : gs s m < s * s ∧ gc s (gs s m) = gt s m := by
  have a := div_lt h1 h8 hm
  have b := Nat.mod_lt m (by omega : 0 < s)
  unfold gt gs gc
  generalize m / s = u at *
  generalize m % s = v at *
  have e1 : ((s - 1 - v) * s + u) / s = s - 1 - v := by
    rw [Nat.mul_comm, Nat.mul_add_div (by omega), Nat.div_eq_of_lt a]; omega
  have e2 : ((s - 1 - v) * s + u) % s = u := by
    rw [Nat.mul_comm, Nat.mul_add_mod, Nat.mod_eq_of_lt a]
  refine ⟨(Nat.div_lt_iff_lt_mul (by omega)).1 (by omega), ?_⟩
  rw [e1, e2]
  have e3 : ((s - 1 - v : Nat) : Int) = (s : Int) - 1 - v := by omega
  rw [e3]
  simp only [Prod.mk.injEq, and_true]
  omega
theorem tab_gps : isTab (gps s) (lbs s).length = true := by
  rw [lbs_len]
  have : s * s ≤ 8 * 8 := Nat.mul_le_mul h8 h8
  exact tab_is (by omega) (gps_len s) (fun _ hk => gps_is h1 h8 hk) (fun _ _ _ _ hne he => hne (gc_inj he))
theorem tab_gts : isTab (gts s) (lbs s).length = true := by
  rw [lbs_len]
  have : s * s ≤ 8 * 8 := Nat.mul_le_mul h8 h8
  exact tab_is (by omega) (gts_len s) (fun _ hk => (gts_some h1 h8 (by rw [gps_len, ← gts_len]; exact hk)).2) (fun _ _ _ _ hne he => hne (gt_inj he))
theorem near_gps {m : Nat} (hm : m < (gps s).length) : nearI (gps s) (gps s)[m] = m :=
  near_is hm (fun _ hk => gps_is h1 h8 hk) (gps_is h1 h8 hm) (fun _ _ hne he => hne (gc_inj he))
theorem near_gts {m : Nat} (hm : m < (gts s).length) : nearI (gts s) (gts s)[m] = m :=
  near_is hm (fun _ hk => (gts_some h1 h8 (by rw [gps_len, ← gts_len]; exact hk)).2) ((gts_some h1 h8 (by rw [gps_len, ← gts_len]; exact hm)).2) (fun _ _ hne he => hne (gt_inj he))
theorem near_mix {m : Nat} (hm : m < (gts s).length) : ∃ j, ∃ hj : j < (gps s).length, nearI (gps s) (gts s)[m] = j ∧ ceq (gps s)[j] (gts s)[m] = true := by
  have hg := gs_lt h1 h8 (by rwa [gts_len] at hm)
  have hj : gs s m < (gps s).length := by rw [gps_len]; exact hg.1
  have ht := (gts_some h1 h8 (by rw [gps_len, ← gts_len]; exact hm)).2
  refine ⟨gs s m, hj, near_is hj (fun _ hk => gps_is h1 h8 hk) (by rw [hg.2]; exact ht) (fun _ _ hne he => hne (gc_inj he)), ?_⟩
  rw [ceq_is (gps_is h1 h8 hj) ht]
  exact decide_eq_true hg.2
omit h1 h8 in
theorem idx_lbs {m : Nat} (hm : m < s * s) : idxL (lbs s) (m : Int) = m :=
  idxL_hit (by rw [lbs_len]; exact hm) (lbs_at _) (fun j hj => by rw [lbs_at]; omega)
theorem words_gps : ∀ p ∈ gps s, p.1 < 4294967296 ∧ p.2 < 4294967296 := fun p hp => by
  obtain ⟨m, hm, rfl⟩ := List.getElem_of_mem hp
  exact (cfin_is (gps_is h1 h8 hm)).2
theorem words_gts : ∀ p ∈ gts s, p.1 < 4294967296 ∧ p.2 < 4294967296 := fun p hp => by
  obtain ⟨m, hm, rfl⟩ := List.getElem_of_mem hp
  exact (cfin_is ((gts_some h1 h8 (by rw [gps_len, ← gts_len]; exact hm)).2)).2
theorem gl_lbs : grid (gl s) s s 0 = (lbs s).map (Value.int .i64) := by
  refine List.ext_getElem? fun m => ?_
  by_cases hm : m < s * s
  · rw [grid_get (gl s) (by omega) s m hm, List.getElem?_map, List.getElem?_eq_getElem (by rw [lbs_len]; exact hm), lbs_at]
    unfold gl
    have := Nat.div_add_mod m s
    have h : ((m / s : Nat) : Int) * s + ((m % s : Nat) : Int) = m := by
      rw [Nat.mul_comm] at this
      exact_mod_cast this
    rw [h]; rfl
  · rw [List.getElem?_eq_none (by rw [grid_len]; omega), List.getElem?_eq_none (by rw [List.length_map, lbs_len]; omega)]
end
end Go.Proofs.Ytolflcjaglgphaa
