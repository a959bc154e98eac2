/- Part of the proofs about the layer of roads: Searches in lists. Vectors, products of 128 bits, and how near a point is to a line: road and its reference compute the same. Names: strings.Trim with the letters of a name; road.named and its reference. strings.Trim with the letters of a name. The data of scenes. MADE BY gen_idx.py: slices.IndexFunc and slices.ContainsFunc of the element types. Small functions: coordinates as stated, corners, and their like. What is wrong with a tree, a front, a column. The reference's checks of a front and a column. What is wrong with a column. The reference's check of a column. MADE BY gen_idx3.py: slices.IndexFunc and slices.ContainsFunc of the element types. -/
import Derived.Test.YtlgclllkejioaaaGreatDoorPartE
import Derived.Laws.MathBits
set_option linter.unusedVariables false
set_option linter.unusedSimpArgs false

/- Searches in lists. -/
namespace Go.Proofs.Am
open Go Go.Proofs Go.Proofs.Am
set_option maxRecDepth 100000
abbrev I (x : Int) : AV := .v (.int .i64 x)
abbrev U (x : Int) : AV := .v (.int .u64 x)
abbrev B (x : Bool) : AV := .v (.bool x)
abbrev w64 (z : Int) : Int := IntKind.i64.wrap z
abbrev rowOf {α : Type} (sz : Nat) (f : α → List AV) (d : α) (l : List α) : AV := .rsl l.length sz (fun i => f (l.getD i d))
noncomputable abbrev fs133 : List (Nat × Func) := [(133, Tryz.f133)]
theorem fs133_ok : FsOK Tryz.prog fs133 := ⟨Tryz.func133, Tryz.call133, trivial⟩
theorem c133 : CtxOK Tryz.prog (ctx [] fs133) := ctx_ok fs133_ok rfl
theorem w64_nat {n m : Nat} (h : n < m) (hm : m ≤ 9223372036854775807) : w64 ((n : Int) + 1) = ((n + 1 : Nat) : Int) := by
  unfold w64
  rw [IntKind.wrap_i64]
  omega
def idx {α : Type} (p : α → Bool) (l : List α) : Int := match l.findIdx? p with | some i => (i : Int) | none => -1
theorem idx_hit {α : Type} {p : α → Bool} {l : List α} {d : α} {i : Nat} (hi : i < l.length) (h : ∀ j, j < i → p (l.getD j d) = false) (hp : p (l.getD i d) = true) : idx p l = i := by
  unfold idx
  have : l.findIdx? p = some i := by
    rw [List.findIdx?_eq_some_iff_getElem]
    refine ⟨hi, ?_, fun j hj => ?_⟩
    · simpa [List.getD_eq_getElem?_getD, hi] using hp
    · have := h j hj
      have hjl : j < l.length := by omega
      simpa [List.getD_eq_getElem?_getD, hjl] using this
  rw [this]
theorem idx_none {α : Type} {p : α → Bool} {l : List α} {d : α} (h : ∀ j, j < l.length → p (l.getD j d) = false) : idx p l = -1 := by
  unfold idx
  have : l.findIdx? p = none := by
    rw [List.findIdx?_eq_none_iff]
    intro x hx
    obtain ⟨j, hj, rfl⟩ := List.mem_iff_getElem.1 hx
    have := h j hj
    simpa [List.getD_eq_getElem?_getD, hj] using this
  rw [this]



theorem index133 {f : FuncId} (l : List Int) (hlen : l.length ≤ 9223372036854775807) (p : Int → Bool) (hf : ∀ x, Fun Tryz.prog f [I x] (B (p x))) :
    Fun Tryz.prog 133 [rowOf 1 (fun x => [I x]) 0 l, .fn (.func f) []] (I (idx p l)) := by
  refine Fun.of_run c133 rfl ?_
  refine Rn.stop 1000 rfl ?_
  refine Rn.loop trivial (fun i : Nat => [(0, rowOf 1 (fun x => [I x]) 0 l), (1, .fn (.func f) []), (7, I l.length), (8, I (i : Int))]) (fun _ => []) 0
    (fun i => i ≤ l.length ∧ ∀ j, j < i → p (l.getD j 0) = false) (fun i => l.length - i) 0 ⟨Nat.zero_le _, fun j hj => absurd hj (by omega)⟩
    ⟨⟨rfl, rfl, rfl, rfl, rfl, .cons rfl (.refl rfl) (.cons rfl (.refl rfl) (.cons rfl (.refl rfl) (.cons rfl (.int _ _) .nil))), rfl⟩, trivial, .nil⟩ ?_
  rintro i ⟨hi, hall⟩ ih
  refine Rn.ite 1000 rfl (fun h => ?_) (fun h => ?_)
  · have h : i < l.length := by simpa using h
    refine Rn.asr 1000 rfl (by simp [inB, h]) ?_
    refine Rn.call 1000 rfl _ (hf _) ?_
    refine Rn.ite 1000 rfl (fun hp => ?_) (fun hp => ?_)
    · refine Rn.ret 1000 rfl rfl ?_
      have := idx_hit h hall hp
      rw [this]
    · refine Rn.stop 1000 rfl ?_
      refine Rn.weaken trivial ?_ (ih (i + 1) (by omega) ⟨h, fun j hj => ?_⟩)
      · exact ⟨⟨rfl, rfl, rfl, rfl, rfl, .cons rfl (.refl rfl) (.cons rfl (.refl rfl) (.cons rfl (.refl rfl) (.cons rfl (.eq rfl (congrArg I (w64_nat h hlen))) .nil))), rfl⟩, trivial, .nil⟩
      · rcases Nat.lt_or_ge j i with hj' | hj'
        · exact hall j hj'
        · have : j = i := by omega
          subst this
          exact hp
  · have h : ¬ i < l.length := by simpa using h
    have : i = l.length := by omega
    subst this
    exact Rn.ret 1000 rfl rfl (congrArg I (idx_none hall).symm)
end Go.Proofs.Am

/- Vectors, products of 128 bits, and how near a point is to a line: road and its reference compute the same. -/
namespace Go.Proofs.Am
open Go
set_option maxRecDepth 100000

abbrev V (x y : Int) : AV := .agg [I x, I y]
abbrev L4 (a b c d : Int) : AV := .agg [I a, I b, I c, I d]
abbrev u64 (z : Int) : Int := IntKind.u64.wrap z
noncomputable abbrev fsM : List (Nat × Func) := [(84, Tryz.f84), (85, Tryz.f85), (127, Tryz.f127), (101, Tryz.f101), (86, Tryz.f86), (134, Tryz.f134), (135, Tryz.f135), (162, Tryz.f162), (103, Tryz.f103), (78, Tryz.f78),
  (92, Tryz.f92), (93, Tryz.f93), (79, Tryz.f79), (136, Tryz.f136), (137, Tryz.f137), (138, Tryz.f138), (106, Tryz.f106), (71, Tryz.f71), (123, Tryz.f123), (125, Tryz.f125)]
theorem fsM_ok : FsOK Tryz.prog fsM := ⟨Tryz.func84, Tryz.call84, Tryz.func85, Tryz.call85, Tryz.func127, Tryz.call127, Tryz.func101, Tryz.call101, Tryz.func86, Tryz.call86, Tryz.func134, Tryz.call134, Tryz.func135, Tryz.call135, Tryz.func162, Tryz.call162, Tryz.func103, Tryz.call103, Tryz.func78, Tryz.call78,
  Tryz.func92, Tryz.call92, Tryz.func93, Tryz.call93, Tryz.func79, Tryz.call79, Tryz.func136, Tryz.call136, Tryz.func137, Tryz.call137, Tryz.func138, Tryz.call138, Tryz.func106, Tryz.call106, Tryz.func71, Tryz.call71, Tryz.func123, Tryz.call123, Tryz.func125, Tryz.call125, trivial⟩
theorem cM : CtxOK Tryz.prog (ctx [] fsM) := ctx_ok fsM_ok rfl

theorem minus_fun (x y u v : Int) : Fun Tryz.prog 84 [V x y, V u v] (V (w64 (x - u)) (w64 (y - v))) := Fun.of_run cM rfl (Rn.ret 1000 rfl rfl rfl)
theorem dot_fun (x y u v : Int) : Fun Tryz.prog 85 [V x y, V u v] (I (w64 (w64 (x * u) + w64 (y * v)))) := Fun.of_run cM rfl (Rn.ret 1000 rfl rfl rfl)
theorem cross_fun (x y u v : Int) : Fun Tryz.prog 127 [V x y, V u v] (I (w64 (w64 (x * v) - w64 (y * u)))) := Fun.of_run cM rfl (Rn.ret 1000 rfl rfl rfl)
theorem times_fun (x y n : Int) : Fun Tryz.prog 101 [V x y, I n] (V (w64 (n * x)) (w64 (n * y))) := Fun.of_run cM rfl (Rn.ret 1000 rfl rfl rfl)
theorem rminus_fun (x y u v : Int) : Fun Tryz.prog 93 [V x y, V u v] (V (w64 (x - u)) (w64 (y - v))) := Fun.of_run cM rfl (Rn.ret 1000 rfl rfl rfl)
theorem rdot_fun (x y u v : Int) : Fun Tryz.prog 92 [V x y, V u v] (I (w64 (w64 (x * u) + w64 (y * v)))) := Fun.of_run cM rfl (Rn.ret 1000 rfl rfl rfl)
theorem rcross_fun (x y u v : Int) : Fun Tryz.prog 79 [V x y, V u v] (I (w64 (w64 (x * v) - w64 (y * u)))) := Fun.of_run cM rfl (Rn.ret 1000 rfl rfl rfl)
def sizeI (x : Int) : Int := if w64 (0 - x) > x then w64 (0 - x) else x
theorem size_fun (x : Int) : Fun Tryz.prog 136 [I x] (I (sizeI x)) := Fun.of_run cM rfl (Rn.ret 1000 rfl rfl rfl)

def outB (n lo hi : Int) : Bool := decide (n < lo) || decide (n > hi)
theorem out_fun (n lo hi : Int) : Fun Tryz.prog 86 [I n, I lo, I hi] (B (outB n lo hi)) := by
  refine Fun.of_run cM rfl ?_
  refine Rn.ite 1000 rfl (fun h => ?_) (fun h => ?_)
  · exact Rn.ret 1000 rfl rfl (congrArg B (by unfold outB; rw [h]; rfl))
  · exact Rn.ret 1000 rfl rfl (congrArg B (by unfold outB; rw [h]; rfl))
theorem from_fun (n lo hi : Int) : Fun Tryz.prog 71 [I n, I lo, I hi] (B (!outB n lo hi)) := by
  refine Fun.of_run cM rfl ?_
  refine Rn.ite 1000 rfl (fun h => ?_) (fun h => ?_)
  · exact Rn.ret 1000 rfl rfl (congrArg B (by
      unfold outB
      simp only [decide_eq_true_eq, decide_eq_false_iff_not] at h
      have h1 : decide (n < lo) = false := by simp; omega
      rw [h1]
      by_cases h2 : n ≤ hi
      · have : ¬ n > hi := by omega
        simp [h2]
      · have : n > hi := by omega
        simp [h2, this]))
  · exact Rn.ret 1000 rfl rfl (congrArg B (by
      unfold outB
      simp only [decide_eq_true_eq, decide_eq_false_iff_not] at h
      have h1 : decide (n < lo) = true := by simp; omega
      rw [h1]; rfl))

/-- A product of 128 bits. -/
def prodI (x y : Int) : Int := u64 x * u64 y
def wideA (p : Int) : AV := .agg [U (p / 18446744073709551616), U (p % 18446744073709551616)]

theorem u64_lt (x : Int) : 0 ≤ u64 x ∧ u64 x < 18446744073709551616 := by
  unfold u64
  rw [IntKind.wrap_u64]
  omega
theorem u64_u64 (x : Int) : u64 (u64 x) = u64 x := by
  unfold u64
  simp only [IntKind.wrap_u64]
  omega
theorem fdiv_pos (a b : Int) (hb : 0 ≤ b) : a.fdiv b = a / b := Int.fdiv_eq_ediv_of_nonneg a hb

theorem mul_fun (x y : Int) (hx : 0 ≤ x ∧ x < 18446744073709551616) (hy : 0 ≤ y ∧ y < 18446744073709551616) :
    Fun Tryz.prog 162 [U x, U y] (.tup [U (x * y / 18446744073709551616), U (x * y % 18446744073709551616)]) := by
  refine Fun.of_run cM rfl ?_
  refine Rn.ret 1000 rfl rfl ?_
  have hm := mul64_arith x y hx.1 hx.2 hy.1 hy.2
  have hmx := and_low32 x hx.1 hx.2
  have hmy := and_low32 y hy.1 hy.2
  have red : ∀ z : Int, IntKind.u64.wrap z = z % 18446744073709551616 := fun z => IntKind.wrap_u64 z
  have e32 : (2 : Int) ^ min (Int.toNat 32) IntKind.u64.bits = 4294967296 := by decide
  have mask : ∀ z : Int, 0 ≤ z → z < 18446744073709551616 → IntKind.u64.wrap ((BitVec.ofInt IntKind.u64.bits z &&& BitVec.ofInt IntKind.u64.bits 4294967295).toNat : Int) = z % 4294967296 := fun z h0 h1 => by
    have := and_low32 z h0 h1
    exact this
  simp only [e32]
  rw [mask x hx.1 hx.2, mask y hy.1 hy.2]
  simp only [fdiv_pos _ 4294967296 (by decide)]
  simp only [red] at *
  generalize hz : (x / 4294967296 * (y % 4294967296) % 18446744073709551616 + x % 4294967296 * (y % 4294967296) % 18446744073709551616 / 4294967296) % 18446744073709551616 = z at *
  rw [mask z (by omega) (by omega), hm]

theorem prod_range (x y : Int) : 0 ≤ prodI x y ∧ prodI x y / 18446744073709551616 < 18446744073709551616 := by
  have hx := u64_lt x
  have hy := u64_lt y
  have h0 := Int.mul_nonneg hx.1 hy.1
  have h1 := Int.mul_le_mul (Int.le_of_lt_add_one (b := 18446744073709551615) (by omega) : u64 x ≤ 18446744073709551615) (Int.le_of_lt_add_one (b := 18446744073709551615) (by omega) : u64 y ≤ 18446744073709551615) hy.1 (by decide)
  unfold prodI
  omega

theorem product_fun (x y : Int) : Fun Tryz.prog 134 [I x, I y] (wideA (prodI x y)) := by
  refine Fun.of_run cM rfl ?_
  refine Rn.call 1000 rfl _ (mul_fun (u64 x) (u64 y) (u64_lt x) (u64_lt y)) ?_
  exact Rn.ret 1000 rfl rfl rfl

theorem rproduct_fun (x y : Int) : Fun Tryz.prog 138 [I x, I y] (wideA (prodI x y)) := by
  refine Fun.of_run cM rfl ?_
  refine Rn.ret 1000 rfl rfl ?_
  unfold wideA prodI
  have hx := u64_lt x
  have hy := u64_lt y
  have ex : IntKind.u64.wrap x = u64 x := rfl
  have ey : IntKind.u64.wrap y = u64 y := rfl
  rw [ex, ey]
  generalize u64 x = a at *
  generalize u64 y = b at *
  have td : ∀ z : Int, (IntKind.u64.wrap z).tdiv 4294967296 = IntKind.u64.wrap z / 4294967296 := fun z => Int.tdiv_eq_ediv_of_nonneg (u64_lt z).1
  have tm : ∀ z : Int, (IntKind.u64.wrap z).tmod 4294967296 = IntKind.u64.wrap z % 4294967296 := fun z => Int.tmod_eq_emod_of_nonneg (u64_lt z).1
  have ta : a.tdiv 4294967296 = a / 4294967296 := Int.tdiv_eq_ediv_of_nonneg hx.1
  have tb : b.tdiv 4294967296 = b / 4294967296 := Int.tdiv_eq_ediv_of_nonneg hy.1
  have ma : a.tmod 4294967296 = a % 4294967296 := Int.tmod_eq_emod_of_nonneg hx.1
  have mb : b.tmod 4294967296 = b % 4294967296 := Int.tmod_eq_emod_of_nonneg hy.1
  simp only [td, tm, ta, tb, ma, mb]
  simp only [IntKind.wrap_u64]
  have wa : a / 4294967296 % 18446744073709551616 = a / 4294967296 := by omega
  have wb : b / 4294967296 % 18446744073709551616 = b / 4294967296 := by omega
  rw [wa, wb]
  have exy : a = a / 4294967296 * 4294967296 + a % 4294967296 := by omega
  have eyy : b = b / 4294967296 * 4294967296 + b % 4294967296 := by omega
  generalize hx1 : a / 4294967296 = x1 at *
  generalize hx0' : a % 4294967296 = x0 at *
  generalize hy1 : b / 4294967296 = y1 at *
  generalize hy0' : b % 4294967296 = y0 at *
  have b1 : 0 ≤ x1 ∧ x1 ≤ 4294967295 := by omega
  have b2 : 0 ≤ x0 ∧ x0 ≤ 4294967295 := by omega
  have b3 : 0 ≤ y1 ∧ y1 ≤ 4294967295 := by omega
  have b4 : 0 ≤ y0 ∧ y0 ≤ 4294967295 := by omega
  have pA := prod_bound x1 y1 b1.1 b1.2 b3.1 b3.2
  have pB := prod_bound x1 y0 b1.1 b1.2 b4.1 b4.2
  have pC := prod_bound x0 y0 b2.1 b2.2 b4.1 b4.2
  have pD := prod_bound x0 y1 b2.1 b2.2 b3.1 b3.2
  have hxy : a * b = x1 * y1 * 18446744073709551616 + (x1 * y0 + x0 * y1) * 4294967296 + x0 * y0 := by rw [exy, eyy]; exact split_mul x1 x0 y1 y0
  rw [hxy]
  clear hxy exy eyy hx1 hx0' hy1 hy0' td tm ta tb ma mb wa wb ex ey
  generalize x1 * y1 = A at *
  generalize x1 * y0 = D1 at *
  generalize x0 * y0 = D0 at *
  generalize x0 * y1 = D2 at *
  have fin : ∀ p q p' q' : Int, p = p' → q = q' → (AV.agg [U p, U q] : AV) = AV.agg [U p', U q'] := fun p q p' q' h1 h2 => by rw [h1, h2]
  refine fin _ _ _ _ ?_ ?_
  · omega
  · omega

theorem hi_lo {p q : Int} (h1 : p / 18446744073709551616 = q / 18446744073709551616) (h2 : p % 18446744073709551616 = q % 18446744073709551616) : p = q := by omega

theorem atMost_fun (p q : Int) : Fun Tryz.prog 135 [wideA p, wideA q] (B (decide (p ≤ q))) := by
  refine Fun.of_run cM rfl ?_
  refine Rn.ite 1000 rfl (fun h => ?_) (fun h => ?_)
  · refine Rn.ret 1000 rfl rfl ?_
    refine congrArg B ?_
    simp only [Bool.and_eq_true, beq_iff_eq] at h
    have := hi_lo h.1 h.2
    simp [this]
  · have hne : p ≠ q := fun e => by subst e; simp at h
    refine Rn.ite 1000 rfl (fun h2 => ?_) (fun h2 => ?_)
    · refine Rn.ret 1000 rfl rfl ?_
      refine congrArg B ?_
      have h2 : p / 18446744073709551616 < q / 18446744073709551616 := by simpa using h2
      have : p ≤ q := by omega
      simp [this]
    · have h2 : ¬ p / 18446744073709551616 < q / 18446744073709551616 := by simpa using h2
      refine Rn.ite 1000 rfl (fun h3 => ?_) (fun h3 => ?_)
      · refine Rn.ret 1000 rfl rfl ?_
        refine congrArg B ?_
        have h3 : p / 18446744073709551616 = q / 18446744073709551616 := by simpa using h3
        by_cases hpq : p ≤ q
        · have : p % 18446744073709551616 < q % 18446744073709551616 := by omega
          simp [hpq, this]
        · have : ¬ p % 18446744073709551616 < q % 18446744073709551616 := by omega
          simp [hpq, this]
      · refine Rn.ret 1000 rfl rfl ?_
        refine congrArg B ?_
        have h3 : ¬ p / 18446744073709551616 = q / 18446744073709551616 := by simpa using h3
        have : ¬ p ≤ q := by omega
        simp [this]

theorem above_fun (p q : Int) : Fun Tryz.prog 137 [wideA p, wideA q] (B (decide (p > q))) := by
  refine Fun.of_run cM rfl ?_
  refine Rn.ite 1000 rfl (fun h2 => ?_) (fun h2 => ?_)
  · refine Rn.ret 1000 rfl rfl ?_
    refine congrArg B ?_
    have h2 : p / 18446744073709551616 > q / 18446744073709551616 := by simpa using h2
    have : p > q := by omega
    simp [this]
  · have h2 : ¬ p / 18446744073709551616 > q / 18446744073709551616 := by simpa using h2
    refine Rn.ite 1000 rfl (fun h3 => ?_) (fun h3 => ?_)
    · refine Rn.ret 1000 rfl rfl ?_
      refine congrArg B ?_
      have h3 : p / 18446744073709551616 = q / 18446744073709551616 := by simpa using h3
      by_cases hpq : p > q
      · have : p % 18446744073709551616 > q % 18446744073709551616 := by omega
        simp [hpq, this]
      · have : ¬ p % 18446744073709551616 > q % 18446744073709551616 := by omega
        simp [hpq, this]
    · refine Rn.ret 1000 rfl rfl ?_
      refine congrArg B ?_
      have h3 : ¬ p / 18446744073709551616 = q / 18446744073709551616 := by simpa using h3
      have : ¬ p > q := by omega
      simp [this]

/-- How near a point is to a line: what both texts reckon. -/
def subV (a b : Int × Int) : Int × Int := (w64 (a.1 - b.1), w64 (a.2 - b.2))
def dotV (a b : Int × Int) : Int := w64 (w64 (a.1 * b.1) + w64 (a.2 * b.2))
def crossV (a b : Int × Int) : Int := w64 (w64 (a.1 * b.2) - w64 (a.2 * b.1))
def nearB (a b p : Int × Int) (r : Int) : Bool :=
  if dotV (subV p a) (subV b a) ≤ 0 then decide (dotV (subV p a) (subV p a) ≤ w64 (r * r))
  else if dotV (subV p a) (subV b a) ≥ dotV (subV b a) (subV b a) then decide (dotV (subV p b) (subV p b) ≤ w64 (r * r))
  else decide (prodI (sizeI (crossV (subV b a) (subV p a))) (sizeI (crossV (subV b a) (subV p a))) ≤ prodI (w64 (r * r)) (dotV (subV b a) (subV b a)))

theorem near_fun (ax ay bx bY px py r : Int) : Fun Tryz.prog 103 [L4 ax ay bx bY, V px py, I r] (B (nearB (ax, ay) (bx, bY) (px, py) r)) := by
  refine Fun.of_run cM rfl ?_
  refine Rn.call 1000 rfl _ (minus_fun bx bY ax ay) ?_
  refine Rn.call 1000 rfl _ (minus_fun px py ax ay) ?_
  refine Rn.chk 1000 rfl (by kernel_rfl) ?_
  refine Rn.call 1000 rfl _ (dot_fun _ _ _ _) ?_
  refine Rn.call 1000 rfl _ (dot_fun _ _ _ _) ?_
  refine Rn.chk 1000 rfl (by kernel_rfl) ?_
  refine Rn.ite 1000 rfl (fun h1 => ?_) (fun h1 => ?_)
  · refine Rn.call 1000 rfl _ (dot_fun _ _ _ _) ?_
    exact Rn.ret 1000 rfl rfl (congrArg B (by
      have h1 : dotV (subV (px, py) (ax, ay)) (subV (bx, bY) (ax, ay)) ≤ 0 := of_decide_eq_true h1
      unfold nearB
      rw [if_pos h1]; rfl))
  · have h1 : ¬ dotV (subV (px, py) (ax, ay)) (subV (bx, bY) (ax, ay)) ≤ 0 := of_decide_eq_false h1
    refine Rn.ite 1000 rfl (fun h2 => ?_) (fun h2 => ?_)
    · refine Rn.call 1000 rfl _ (minus_fun _ _ _ _) ?_
      refine Rn.call 1000 rfl _ (dot_fun _ _ _ _) ?_
      exact Rn.ret 1000 rfl rfl (congrArg B (by
        have h2 : dotV (subV (px, py) (ax, ay)) (subV (bx, bY) (ax, ay)) ≥ dotV (subV (bx, bY) (ax, ay)) (subV (bx, bY) (ax, ay)) := of_decide_eq_true h2
        unfold nearB
        rw [if_neg h1, if_pos h2]; rfl))
    · have h2 : ¬ dotV (subV (px, py) (ax, ay)) (subV (bx, bY) (ax, ay)) ≥ dotV (subV (bx, bY) (ax, ay)) (subV (bx, bY) (ax, ay)) := of_decide_eq_false h2
      refine Rn.call 1000 rfl _ (cross_fun _ _ _ _) ?_
      refine Rn.call 1000 rfl _ (product_fun _ _) ?_
      refine Rn.call 1000 rfl _ (product_fun _ _) ?_
      refine Rn.call 1000 rfl _ (atMost_fun _ _) ?_
      exact Rn.ret 1000 rfl rfl (congrArg B (by
        unfold nearB
        rw [if_neg h1, if_neg h2]; rfl))

theorem rnear_fun (ax ay bx bY px py r : Int) : Fun Tryz.prog 106 [V px py, V ax ay, V bx bY, I r] (B (nearB (ax, ay) (bx, bY) (px, py) r)) := by
  refine Fun.of_run cM rfl ?_
  refine Rn.call 1000 rfl _ (rminus_fun bx bY ax ay) ?_
  refine Rn.call 1000 rfl _ (rminus_fun px py ax ay) ?_
  refine Rn.chk 1000 rfl (by kernel_rfl) ?_
  refine Rn.call 1000 rfl _ (rdot_fun _ _ _ _) ?_
  refine Rn.ite 1000 rfl (fun h1 => ?_) (fun h1 => ?_)
  · refine Rn.call 1000 rfl _ (rdot_fun _ _ _ _) ?_
    exact Rn.ret 1000 rfl rfl (congrArg B (by
      have h1 : dotV (subV (px, py) (ax, ay)) (subV (bx, bY) (ax, ay)) ≤ 0 := of_decide_eq_true h1
      unfold nearB
      rw [if_pos h1]; rfl))
  · have h1 : ¬ dotV (subV (px, py) (ax, ay)) (subV (bx, bY) (ax, ay)) ≤ 0 := of_decide_eq_false h1
    refine Rn.call 1000 rfl _ (rdot_fun _ _ _ _) ?_
    refine Rn.call 1000 rfl _ (rdot_fun _ _ _ _) ?_
    refine Rn.chk 1000 rfl (by kernel_rfl) ?_
    refine Rn.ite 1000 rfl (fun h2 => ?_) (fun h2 => ?_)
    · refine Rn.call 1000 rfl _ (rminus_fun _ _ _ _) ?_
      refine Rn.call 1000 rfl _ (rdot_fun _ _ _ _) ?_
      exact Rn.ret 1000 rfl rfl (congrArg B (by
        have h2 : dotV (subV (px, py) (ax, ay)) (subV (bx, bY) (ax, ay)) ≥ dotV (subV (bx, bY) (ax, ay)) (subV (bx, bY) (ax, ay)) := of_decide_eq_true h2
        unfold nearB
        rw [if_neg h1, if_pos h2]; rfl))
    · have h2 : ¬ dotV (subV (px, py) (ax, ay)) (subV (bx, bY) (ax, ay)) ≥ dotV (subV (bx, bY) (ax, ay)) (subV (bx, bY) (ax, ay)) := of_decide_eq_false h2
      refine Rn.call 1000 rfl _ (rcross_fun _ _ _ _) ?_
      refine Rn.call 1000 rfl _ (size_fun _) ?_
      refine Rn.call 1000 rfl _ (rproduct_fun _ _) ?_
      refine Rn.call 1000 rfl _ (rdot_fun _ _ _ _) ?_
      refine Rn.call 1000 rfl _ (rproduct_fun _ _) ?_
      refine Rn.call 1000 rfl _ (above_fun _ _) ?_
      refine Rn.chk 1000 rfl (by kernel_rfl) ?_
      exact Rn.ret 1000 rfl rfl (congrArg B (by
        unfold nearB
        rw [if_neg h1, if_neg h2]
        show (!decide (_ > _)) = decide (_ ≤ _)
        rw [← decide_not]
        congr 1
        simp only [gt_iff_lt, Int.not_lt]
        rfl))
end Go.Proofs.Am

/- Names: strings.Trim with the letters of a name; road.named and its reference. -/
namespace Go.Proofs.Am
open Go
set_option maxRecDepth 100000

noncomputable abbrev fsS : List (Nat × Func) := [(114, Tryz.f114), (146, Tryz.f146), (166, Tryz.f166), (167, Tryz.f167), (168, Tryz.f168), (185, Tryz.f185), (122, Tryz.f122)]
theorem fsS_ok : FsOK Tryz.prog fsS := ⟨Tryz.func114, Tryz.call114, Tryz.func146, Tryz.call146, Tryz.func166, Tryz.call166, Tryz.func167, Tryz.call167, Tryz.func168, Tryz.call168, Tryz.func185, Tryz.call185, Tryz.func122, Tryz.call122, trivial⟩
theorem cS : CtxOK Tryz.prog (ctx [] fsS) := ctx_ok fsS_ok rfl

abbrev S (l : List UInt8) : AV := .v (.string ⟨⟨l⟩⟩)
def allowB (i : Nat) : Bool := decide (97 ≤ i ∧ i ≤ 122 ∨ 48 ≤ i ∧ i ≤ 57 ∨ i = 45)
def allowL : List UInt8 := [97,98,99,100,101,102,103,104,105,106,107,108,109,110,111,112,113,114,115,116,117,118,119,120,121,122,48,49,50,51,52,53,54,55,56,57,45]
def setT : List AV := (List.range 256).map fun i => AV.t (allowB i)
theorem ascii_fun : Fun Tryz.prog 166 [S allowL] (.tup [.agg setT, .t true]) := Fun.of_exec cS noOrc_ok 1000 100000 (by kernel_rfl)

/-- Byte i of a string. -/
def byteAt (l : List UInt8) (i : Nat) : Nat := ((ByteArray.mk ⟨l⟩).data[i]?.getD 0).toNat
theorem byteAt_lt (l : List UInt8) (i : Nat) : byteAt l i < 256 := ((ByteArray.mk ⟨l⟩).data[i]?.getD 0).toNat_lt

def low (c : Nat) : Bool := decide (97 ≤ c ∧ c ≤ 122)

/-- Is byte i of a name as it has to be? -/
def okAt (l : List UInt8) (i : Nat) : Bool := if i = 0 then low (byteAt l i) else allowB (byteAt l i)
def nameB (l : List UInt8) : Bool := decide (0 < l.length) && (decide (l.length ≤ 24) && (List.range l.length).all (okAt l))

theorem nameB_bad {l : List UInt8} {i : Nat} (hi : i < l.length) (h : okAt l i = false) : nameB l = false := by
  have : (List.range l.length).all (okAt l) = false := by
    rw [List.all_eq_false]
    exact ⟨i, List.mem_range.2 hi, by rw [h]; simp⟩
  unfold nameB
  rw [this]; simp
theorem nameB_good {l : List UInt8} (h : ∀ j, j < l.length → okAt l j = true) : nameB l = (decide (0 < l.length) && decide (l.length ≤ 24)) := by
  have : (List.range l.length).all (okAt l) = true := by
    rw [List.all_eq_true]
    exact fun j hj => h j (List.mem_range.1 hj)
  unfold nameB
  rw [this]; simp

theorem rname_fun (l : List UInt8) (hlen : l.length ≤ 9223372036854775807) : Fun Tryz.prog 122 [S l] (B (nameB l)) := by
  refine Fun.of_run cS rfl ?_
  refine Rn.stop 1000 rfl ?_
  refine Rn.loop trivial (fun i : Nat => [(0, S l), (3, I (i : Int))]) (fun _ => []) 0
    (fun i => i ≤ l.length ∧ ∀ j, j < i → okAt l j = true) (fun i => l.length - i) 0 ⟨Nat.zero_le _, fun j hj => absurd hj (by omega)⟩
    ⟨⟨rfl, rfl, rfl, rfl, rfl, .cons rfl (.refl rfl) (.cons rfl (.int _ _) .nil), rfl⟩, trivial, .nil⟩ ?_
  rintro i ⟨hi, hall⟩ ih
  have hsz : (ByteArray.size ⟨⟨l⟩⟩) = l.length := rfl
  refine Rn.ite 1000 rfl (fun h => ?_) (fun h => ?_)
  · have h : (i : Int) < (l.length : Int) := of_decide_eq_true h
    have hil : i < l.length := by omega
    have hin : inB (i : Int) (ByteArray.size ⟨⟨l⟩⟩) = true := by simp [inB, hsz, hil]
    have bad : okAt l i = false → AV.v (.bool false) = B (nameB l) := fun h => by rw [nameB_bad hil h]
    have inv : okAt l i = true → (i + 1 ≤ l.length ∧ ∀ j, j < i + 1 → okAt l j = true) := fun hok => ⟨hil, fun j hj => by
      rcases Nat.lt_or_ge j i with hj' | hj'
      · exact hall j hj'
      · have : j = i := by omega
        subst this; exact hok⟩
    have ok1 : ∀ c : Nat, c = byteAt l i → ((97 ≤ c ∧ c ≤ 122) ∨ (i ≠ 0 ∧ (48 ≤ c ∧ c ≤ 57 ∨ c = 45))) → okAt l i = true := fun c hc hh => by
      subst hc
      unfold okAt low allowB
      split <;> simp <;> omega
    have ok2 : ∀ c : Nat, c = byteAt l i → ¬ ((97 ≤ c ∧ c ≤ 122) ∨ (i ≠ 0 ∧ (48 ≤ c ∧ c ≤ 57 ∨ c = 45))) → okAt l i = false := fun c hc hh => by
      subst hc
      unfold okAt low allowB
      split <;> simp <;> omega
    have hc0 : ((ByteArray.mk ⟨l⟩).data[((i : Nat) : Int).toNat]?.getD 0).toNat = byteAt l i := rfl
    refine Rn.asr 1000 rfl hin ?_
    repeat' (first
      | refine Rn.asr 1000 rfl hin ?_
      | refine Rn.ite 1000 rfl (fun _ => ?_) (fun _ => ?_))
    all_goals first
      | exact Rn.ret 1000 rfl rfl (bad (ok2 _ hc0 (by
          clear ih bad inv ok1 ok2
          simp only [decide_eq_true_eq, decide_eq_false_iff_not, Bool.not_eq_true', Bool.not_eq_false', bne_iff_ne, beq_iff_eq, ne_eq, bne_eq_false_iff_eq, beq_eq_false_iff_ne] at *
          omega)))
      | (refine Rn.stop 1000 rfl ?_
         refine Rn.weaken trivial ?_ (ih (i + 1) (by omega) (inv (ok1 _ hc0 ?_)))
         · exact ⟨⟨rfl, rfl, rfl, rfl, rfl, .cons rfl (.refl rfl) (.cons rfl (.eq rfl (congrArg I (w64_nat hil hlen))) .nil), rfl⟩, trivial, .nil⟩
         · clear ih bad inv ok1 ok2
           simp only [decide_eq_true_eq, decide_eq_false_iff_not, Bool.not_eq_true', Bool.not_eq_false', bne_iff_ne, beq_iff_eq, ne_eq, bne_eq_false_iff_eq, beq_eq_false_iff_ne] at *
           omega)
  · have h : ¬ (i : Int) < (l.length : Int) := of_decide_eq_false h
    have hil : i = l.length := by omega
    subst hil
    refine Rn.ite 1000 rfl (fun h => ?_) (fun h => ?_)
    · have h : (0 : Int) < (l.length : Int) := of_decide_eq_true h
      exact Rn.ret 1000 rfl rfl (congrArg B (by
        rw [nameB_good hall]
        have : 0 < l.length := by omega
        simp only [this, decide_true, Bool.true_and]
        show decide ((l.length : Int) ≤ 24) = _
        congr 1
        exact propext (by omega)))
    · have h : ¬ (0 : Int) < (l.length : Int) := of_decide_eq_false h
      exact Rn.ret 1000 rfl rfl (congrArg B (by
        rw [nameB_good hall]
        have : ¬ 0 < l.length := by omega
        simp [this]))
end Go.Proofs.Am

/- strings.Trim with the letters of a name. -/
namespace Go.Proofs.Am
open Go
set_option maxRecDepth 100000

def setV : List AV := (List.range 256).map fun i => AV.v (.bool (allowB i))

theorem contains_fun (c : Nat) (hc : c < 256) : Fun Tryz.prog 185 [.pat setV 0, .v (.int .u8 (c : Int))] (B (allowB c)) := by
  refine Fun.of_run cS rfl ?_
  refine Rn.asr 1000 rfl (by simp [inB]; omega) ?_
  refine Rn.ret 1000 rfl rfl ?_
  refine congrArg B ?_
  change List.getD (List.map allowB (List.range 256)) c false = _
  rw [List.getD_eq_getElem?_getD, List.getElem?_map, List.getElem?_range hc]
  rfl

/-- Bytes of a string, cut out. -/
theorem byteAt_get (l : List UInt8) (i : Nat) : byteAt l i = (l[i]?.getD 0).toNat := by
  unfold byteAt
  simp
theorem extract_S (l : List UInt8) (a b : Nat) : (ByteArray.mk ⟨l⟩).extract a b = ByteArray.mk ⟨(l.drop a).take (b - a)⟩ := by
  apply ByteArray.ext
  apply Array.ext'
  rw [ByteArray.data_extract]
  simp [List.extract_eq_take_drop]

def trimR (l : List UInt8) : List UInt8 := (l.reverse.dropWhile fun c => allowB c.toNat).reverse
def trimL (l : List UInt8) : List UInt8 := l.dropWhile fun c => allowB c.toNat

theorem trimRight_fun (l : List UInt8) (hlen : l.length ≤ 9223372036854775807) : Fun Tryz.prog 168 [S l, .pat setV 0] (S (trimR l)) := by
  refine Fun.of_run cS rfl ?_
  refine Rn.stop 1000 rfl ?_
  refine Rn.loop trivial (fun k : List UInt8 => [(0, S k), (1, .pat setV 0)]) (fun _ => []) 0
    (fun k => k.length ≤ l.length ∧ trimR k = trimR l) (fun k => k.length) l ⟨Nat.le_refl _, rfl⟩
    ⟨⟨rfl, rfl, rfl, rfl, rfl, .cons rfl (.refl rfl) (.cons rfl (.refl rfl) .nil), rfl⟩, trivial, .nil⟩ ?_
  rintro k ⟨hk, heq⟩ ih
  refine Rn.ite 1000 rfl (fun h => ?_) (fun h => ?_)
  · have h : ((k.length : Nat) : Int) > 0 := of_decide_eq_true h
    have hw : w64 ((k.length : Int) - 1) = ((k.length - 1 : Nat) : Int) := by
      unfold w64
      rw [IntKind.wrap_i64]
      omega
    have hne : k ≠ [] := fun e => by subst e; simp at h
    have hin : inB (w64 ((k.length : Int) - 1)) (ByteArray.size ⟨⟨k⟩⟩) = true := by
      rw [hw]
      show inB _ k.length = true
      simp [inB]; omega
    have hbyte : ((ByteArray.mk ⟨k⟩).data[(w64 ((k.length : Int) - 1)).toNat]?.getD 0) = k.getLast hne := by
      rw [hw, Int.toNat_natCast, List.getLast_eq_getElem hne]
      simp
      rw [List.getElem?_eq_getElem (by omega)]
      rfl
    refine Rn.asr 1000 rfl hin ?_
    refine Rn.call 1000 rfl _ (contains_fun _ (UInt8.toNat_lt _)) ?_
    refine Rn.ite 1000 rfl (fun h2 => ?_) (fun h2 => ?_)
    · have h2 : (!allowB ((ByteArray.mk ⟨k⟩).data[(w64 ((k.length : Int) - 1)).toNat]?.getD 0).toNat) = true := h2
      rw [hbyte] at h2
      have : trimR k = k := by
        conv => lhs; rw [← List.dropLast_concat_getLast hne]
        unfold trimR
        rw [List.reverse_append, List.reverse_singleton, List.singleton_append, List.dropWhile_cons]
        have h3 : allowB (k.getLast hne).toNat = false := by simpa using h2
        rw [h3]
        simp only [Bool.false_eq_true, if_false]
        rw [List.reverse_cons, List.reverse_reverse]
        exact List.dropLast_concat_getLast hne
      exact Rn.ret 1000 rfl rfl (congrArg S (this.symm.trans heq))
    · have h2 : (!allowB ((ByteArray.mk ⟨k⟩).data[(w64 ((k.length : Int) - 1)).toNat]?.getD 0).toNat) = false := h2
      rw [hbyte] at h2
      have hd : trimR k.dropLast = trimR k := by
        conv => rhs; rw [← List.dropLast_concat_getLast hne]
        unfold trimR
        rw [List.reverse_append, List.reverse_singleton, List.singleton_append, List.dropWhile_cons]
        have h3 : allowB (k.getLast hne).toNat = true := by simpa using h2
        rw [h3]
        simp
      have hb2 : (decide ((0 : Int) ≤ 0) && decide ((0 : Int) ≤ w64 ((k.length : Int) - 1)) && decide (w64 ((k.length : Int) - 1) ≤ ((ByteArray.size ⟨⟨k⟩⟩ : Nat) : Int))) = true := by
        rw [hw]
        show (decide ((0 : Int) ≤ 0) && decide ((0 : Int) ≤ ((k.length - 1 : Nat) : Int)) && decide (((k.length - 1 : Nat) : Int) ≤ ((k.length : Nat) : Int))) = true
        simp
      refine Rn.asr 1000 rfl hb2 ?_
      refine Rn.stop 1000 rfl ?_
      have hpos : 0 < k.length := by omega
      refine Rn.weaken trivial ?_ (ih k.dropLast (by simp; omega) ⟨by simp; omega, hd.trans heq⟩)
      refine ⟨⟨rfl, rfl, rfl, rfl, rfl, .cons rfl (.eq rfl ?_) (.cons rfl (.refl rfl) .nil), rfl⟩, trivial, .nil⟩
      have e1 : (ByteArray.mk ⟨k⟩).extract (Int.toNat 0) (w64 ((k.length : Int) - 1)).toNat = ByteArray.mk ⟨k.dropLast⟩ := by
        rw [hw, extract_S, Int.toNat_natCast]
        simp [List.dropLast_eq_take]
      exact congrArg (fun b => AV.v (.string b)) e1
  · have h : ¬ ((k.length : Nat) : Int) > 0 := of_decide_eq_false h
    have : k = [] := List.eq_nil_of_length_eq_zero (by omega)
    subst this
    exact Rn.ret 1000 rfl rfl (congrArg S heq)

theorem trimLeft_fun (l : List UInt8) (hlen : l.length ≤ 9223372036854775807) : Fun Tryz.prog 167 [S l, .pat setV 0] (S (trimL l)) := by
  refine Fun.of_run cS rfl ?_
  refine Rn.stop 1000 rfl ?_
  refine Rn.loop trivial (fun k : List UInt8 => [(0, S k), (1, .pat setV 0)]) (fun _ => []) 0
    (fun k => k.length ≤ l.length ∧ trimL k = trimL l) (fun k => k.length) l ⟨Nat.le_refl _, rfl⟩
    ⟨⟨rfl, rfl, rfl, rfl, rfl, .cons rfl (.refl rfl) (.cons rfl (.refl rfl) .nil), rfl⟩, trivial, .nil⟩ ?_
  rintro k ⟨hk, heq⟩ ih
  refine Rn.ite 1000 rfl (fun h => ?_) (fun h => ?_)
  · have h : ((k.length : Nat) : Int) > 0 := of_decide_eq_true h
    cases k with
    | nil => simp at h
    | cons c k =>
    have hin : inB 0 (ByteArray.size ⟨⟨c :: k⟩⟩) = true := by
      show inB 0 (k.length + 1) = true
      simp [inB]
    have hbyte : ((ByteArray.mk ⟨c :: k⟩).data[Int.toNat 0]?.getD 0) = c := by simp
    refine Rn.asr 1000 rfl hin ?_
    refine Rn.call 1000 rfl _ (contains_fun _ (UInt8.toNat_lt _)) ?_
    refine Rn.ite 1000 rfl (fun h2 => ?_) (fun h2 => ?_)
    · have h2 : (!allowB ((ByteArray.mk ⟨c :: k⟩).data[Int.toNat 0]?.getD 0).toNat) = true := h2
      rw [hbyte] at h2
      have : trimL (c :: k) = c :: k := by
        unfold trimL
        rw [List.dropWhile_cons]
        have h3 : allowB c.toNat = false := by simpa using h2
        rw [h3]
        simp
      exact Rn.ret 1000 rfl rfl (congrArg S (this.symm.trans heq))
    · have h2 : (!allowB ((ByteArray.mk ⟨c :: k⟩).data[Int.toNat 0]?.getD 0).toNat) = false := h2
      rw [hbyte] at h2
      have hd : trimL k = trimL (c :: k) := by
        conv => rhs; unfold trimL
        rw [List.dropWhile_cons]
        have h3 : allowB c.toNat = true := by simpa using h2
        rw [h3]
        rfl
      have hb2 : (decide ((0 : Int) ≤ 1) && decide ((1 : Int) ≤ ((ByteArray.size ⟨⟨c :: k⟩⟩ : Nat) : Int)) && decide (((ByteArray.size ⟨⟨c :: k⟩⟩ : Nat) : Int) ≤ ((ByteArray.size ⟨⟨c :: k⟩⟩ : Nat) : Int))) = true := by
        show (decide ((0 : Int) ≤ 1) && decide ((1 : Int) ≤ ((k.length + 1 : Nat) : Int)) && decide (((k.length + 1 : Nat) : Int) ≤ ((k.length + 1 : Nat) : Int))) = true
        simp <;> omega
      refine Rn.asr 1000 rfl hb2 ?_
      refine Rn.stop 1000 rfl ?_
      refine Rn.weaken trivial ?_ (ih k (by simp) ⟨by simp at hk; omega, hd.trans heq⟩)
      refine ⟨⟨rfl, rfl, rfl, rfl, rfl, .cons rfl (.eq rfl ?_) (.cons rfl (.refl rfl) .nil), rfl⟩, trivial, .nil⟩
      have e1 : (ByteArray.mk ⟨c :: k⟩).extract (Int.toNat 1) (((ByteArray.size ⟨⟨c :: k⟩⟩ : Nat) : Int)).toNat = ByteArray.mk ⟨k⟩ := by
        have : (((ByteArray.size ⟨⟨c :: k⟩⟩ : Nat) : Int)).toNat = k.length + 1 := rfl
        rw [this, extract_S]
        simp
      exact congrArg (fun b => AV.v (.string b)) e1
  · have h : ¬ ((k.length : Nat) : Int) > 0 := of_decide_eq_false h
    have : k = [] := List.eq_nil_of_length_eq_zero (by omega)
    subst this
    exact Rn.ret 1000 rfl rfl (congrArg S heq)

theorem strEq (a b : List UInt8) : ((ByteArray.mk ⟨a⟩).toList == (ByteArray.mk ⟨b⟩).toList) = decide (a = b) := by
  rw [ByteArray.toList_eq, ByteArray.toList_eq]
  by_cases h : a = b
  · subst h; simp
  · simp [h]

theorem trimR_len (l : List UInt8) : (trimR l).length ≤ l.length := by
  unfold trimR
  rw [List.length_reverse]
  have := (List.dropWhile_sublist (l := l.reverse) fun c => allowB c.toNat).length_le
  simpa using this

theorem trim_fun (l : List UInt8) (hlen : l.length ≤ 9223372036854775807) : Fun Tryz.prog 146 [S l, S allowL] (S (trimL (trimR l))) := by
  refine Fun.of_run cS rfl ?_
  refine Rn.ite 1000 rfl (fun h => ?_) (fun h => ?_)
  · have h : ((ByteArray.mk ⟨l⟩).toList == (ByteArray.mk ⟨[]⟩).toList) = true := h
    rw [strEq] at h
    have : l = [] := of_decide_eq_true h
    subst this
    exact Rn.ret 1000 rfl rfl rfl
  · refine Rn.ite 1000 rfl (fun h => ?_) (fun h => ?_)
    · have h : ((ByteArray.mk ⟨allowL⟩).toList == (ByteArray.mk ⟨[]⟩).toList) = true := h
      rw [strEq] at h
      exact absurd (of_decide_eq_true h) (by decide)
    · refine Rn.ite 1000 rfl (fun h => ?_) (fun h => ?_)
      · exact absurd (show false = true from h) (by decide)
      · refine Rn.call 1000 rfl _ ascii_fun ?_
        refine Rn.call 1000 rfl _ (trimRight_fun l hlen) ?_
        refine Rn.call 1000 rfl _ (trimLeft_fun _ (Nat.le_trans (trimR_len l) hlen)) ?_
        exact Rn.ret 1000 rfl rfl rfl

theorem allow_iff (c : Nat) : allowB c = true ↔ (97 ≤ c ∧ c ≤ 122 ∨ 48 ≤ c ∧ c ≤ 57 ∨ c = 45) := by
  unfold allowB; simp
theorem dropWhile_nil {α : Type} {p : α → Bool} : ∀ {l : List α}, l.dropWhile p = [] ↔ ∀ x ∈ l, p x = true
  | [] => by simp
  | a :: l => by
    rw [List.dropWhile_cons]
    cases h : p a
    · simp [h]
    · simp [h, dropWhile_nil]
theorem dropWhile_head {α : Type} {p : α → Bool} {c : α} {r : List α} : ∀ {l : List α}, l.dropWhile p = c :: r → p c = false
  | [], h => by simp at h
  | a :: l, h => by
    rw [List.dropWhile_cons] at h
    cases hp : p a with
    | false =>
      rw [hp] at h
      simp only [Bool.false_eq_true, if_false, List.cons.injEq] at h
      rw [← h.1]; exact hp
    | true =>
      rw [hp] at h
      simp only [if_true] at h
      exact dropWhile_head h
theorem trim_empty (l : List UInt8) : trimL (trimR l) = [] ↔ ∀ c ∈ l, allowB c.toNat = true := by
  constructor
  · intro h
    have h1 : ∀ c ∈ trimR l, allowB c.toNat = true := by
      unfold trimL at h
      rw [dropWhile_nil] at h
      exact h
    have h2 : trimR l = [] := by
      cases hr : (l.reverse.dropWhile fun c => allowB c.toNat) with
      | nil => unfold trimR; rw [hr]; rfl
      | cons c r =>
        have hc : allowB c.toNat = false := dropWhile_head (p := fun c : UInt8 => allowB c.toNat) hr
        have := h1 c (by unfold trimR; rw [hr]; simp)
        rw [hc] at this; cases this
    unfold trimR at h2
    have h3 : (l.reverse.dropWhile fun c => allowB c.toNat) = [] := by simpa using h2
    rw [dropWhile_nil] at h3
    exact fun c hc => h3 c (by simpa using hc)
  · intro h
    have h3 : (l.reverse.dropWhile fun c => allowB c.toNat) = [] := by
      rw [dropWhile_nil]
      exact fun c hc => h c (by simpa using hc)
    unfold trimR
    rw [h3]; rfl

theorem name_iff (l : List UInt8) : nameB l = true ↔ (l ≠ [] ∧ l.length ≤ 24 ∧ trimL (trimR l) = [] ∧ 97 ≤ byteAt l 0 ∧ byteAt l 0 ≤ 122) := by
  unfold nameB
  rw [Bool.and_eq_true, Bool.and_eq_true, List.all_eq_true, trim_empty]
  simp only [decide_eq_true_eq, List.mem_range]
  constructor
  · rintro ⟨h1, h2, h3⟩
    refine ⟨fun e => by subst e; simp at h1, h2, fun c hc => ?_, ?_⟩
    · obtain ⟨i, hi, rfl⟩ := List.mem_iff_getElem.1 hc
      have := h3 i hi
      rw [allow_iff]
      have hb : byteAt l i = (l[i]).toNat := by rw [byteAt_get]; simp [hi]
      unfold okAt at this
      split at this
      · unfold low at this
        rw [hb] at this
        have := of_decide_eq_true this
        exact .inl this
      · rw [hb, allow_iff] at this
        exact this
    · have := h3 0 h1
      unfold okAt low at this
      simpa using this
  · rintro ⟨h1, h2, h3, h4⟩
    have hpos : 0 < l.length := List.length_pos_iff.2 h1
    refine ⟨hpos, h2, fun i hi => ?_⟩
    unfold okAt
    split
    · rename_i e; subst e; unfold low; simpa using h4
    · have hb : byteAt l i = (l[i]).toNat := by rw [byteAt_get]; simp [hi]
      rw [hb]
      exact h3 _ (List.getElem_mem hi)

theorem named_fun (l : List UInt8) (hlen : l.length ≤ 9223372036854775807) : Fun Tryz.prog 114 [S l] (B (nameB l)) := by
  have yes : (l ≠ [] ∧ l.length ≤ 24 ∧ trimL (trimR l) = [] ∧ 97 ≤ byteAt l 0 ∧ byteAt l 0 ≤ 122) → nameB l = true := (name_iff l).2
  have no : ¬ (l ≠ [] ∧ l.length ≤ 24 ∧ trimL (trimR l) = [] ∧ 97 ≤ byteAt l 0 ∧ byteAt l 0 ≤ 122) → nameB l = false := fun h => by
    cases hn : nameB l with
    | false => rfl
    | true => exact absurd ((name_iff l).1 hn) h
  refine Fun.of_run cS rfl ?_
  have hin : l ≠ [] → inB 0 (ByteArray.size ⟨⟨l⟩⟩) = true := fun h => by
    have := List.length_pos_iff.2 h
    show inB 0 l.length = true
    simp [inB]; omega
  refine Rn.call 1000 rfl _ (trim_fun l hlen) ?_
  refine Rn.ite 1000 rfl (fun h => ?_) (fun h => ?_)
  · have h1 : l ≠ [] := by
      have h : (!((ByteArray.mk ⟨l⟩).toList == (ByteArray.mk ⟨[]⟩).toList)) = true := h
      rw [strEq] at h
      simpa using h
    refine Rn.ite 1000 rfl (fun h => ?_) (fun h => ?_)
    · have h2 : l.length ≤ 24 := by
        have h : ((l.length : Nat) : Int) ≤ 24 := of_decide_eq_true h
        omega
      refine Rn.ite 1000 rfl (fun h => ?_) (fun h => ?_)
      · have h3 : trimL (trimR l) = [] := by
          have h : ((ByteArray.mk ⟨trimL (trimR l)⟩).toList == (ByteArray.mk ⟨[]⟩).toList) = true := h
          rw [strEq] at h
          exact of_decide_eq_true h
        refine Rn.asr 1000 rfl (hin h1) ?_
        refine Rn.ite 1000 rfl (fun h => ?_) (fun h => ?_)
        · have h4 : ((byteAt l 0 : Nat) : Int) ≥ 97 := of_decide_eq_true h
          refine Rn.asr 1000 rfl (hin h1) ?_
          refine Rn.ret 1000 rfl rfl ?_
          refine congrArg B ?_
          show decide (((byteAt l 0 : Nat) : Int) ≤ 122) = _
          by_cases h5 : byteAt l 0 ≤ 122
          · rw [yes ⟨h1, h2, h3, by omega, h5⟩]; exact decide_eq_true (by omega)
          · rw [no (fun hh => h5 hh.2.2.2.2)]; exact decide_eq_false (by omega)
        · have h4 : ¬ ((byteAt l 0 : Nat) : Int) ≥ 97 := of_decide_eq_false h
          exact Rn.ret 1000 rfl rfl (congrArg B (no (fun hh => by have := hh.2.2.2.1; omega)).symm)
      · have h3 : ¬ trimL (trimR l) = [] := by
          have h : ((ByteArray.mk ⟨trimL (trimR l)⟩).toList == (ByteArray.mk ⟨[]⟩).toList) = false := h
          rw [strEq] at h
          exact of_decide_eq_false h
        exact Rn.ret 1000 rfl rfl (congrArg B (no (fun hh => h3 hh.2.2.1)).symm)
    · have h2 : ¬ l.length ≤ 24 := by
        have h : ¬ ((l.length : Nat) : Int) ≤ 24 := of_decide_eq_false h
        omega
      exact Rn.ret 1000 rfl rfl (congrArg B (no (fun hh => h2 hh.2.1)).symm)
  · have h1 : l = [] := by
      have h : (!((ByteArray.mk ⟨l⟩).toList == (ByteArray.mk ⟨[]⟩).toList)) = false := h
      rw [strEq] at h
      simpa using h
    exact Rn.ret 1000 rfl rfl (congrArg B (no (fun hh => hh.1 h1)).symm)
end Go.Proofs.Am

/- The data of scenes. -/
namespace Go.Proofs.Am
open Go

structure Rd where
  name : List UInt8
  kind : Int
  pts : List (Int × Int)
  width : Int
instance : Inhabited Rd := ⟨⟨[], 0, [], 0⟩⟩
structure Tr where
  x : Int
  y : Int
  r : Int
  low : Int
  high : Int
instance : Inhabited Tr := ⟨⟨0, 0, 0, 0, 0⟩⟩
structure Wn where
  fro : Int
  til : Int
  low : Int
  high : Int
instance : Inhabited Wn := ⟨⟨0, 0, 0, 0⟩⟩
structure Ft where
  ax : Int
  ay : Int
  bx : Int
  bY : Int
  ws : List Wn
instance : Inhabited Ft := ⟨⟨0, 0, 0, 0, []⟩⟩
structure Cl where
  name : List UInt8
  x : Int
  y : Int
  h : Int
  dx : Int
  dy : Int
instance : Inhabited Cl := ⟨⟨[], 0, 0, 0, 0, 0⟩⟩
structure Sc where
  roads : List Rd
  trees : List Tr
  fronts : List Ft
  cols : List Cl

abbrev iC (x : Int) : List AV := [I x]
abbrev ptC (p : Int × Int) : List AV := [I p.1, I p.2]
abbrev ptsA (l : List (Int × Int)) : AV := rowOf 2 ptC (0, 0) l
abbrev rdC (r : Rd) : List AV := [S r.name, I r.kind, ptsA r.pts, I r.width]
abbrev trC (t : Tr) : List AV := [I t.x, I t.y, I t.r, I t.low, I t.high]
abbrev wnC (w : Wn) : List AV := [I w.fro, I w.til, I w.low, I w.high]
abbrev wsA (l : List Wn) : AV := rowOf 4 wnC default l
abbrev ftC (f : Ft) : List AV := [I f.ax, I f.ay, I f.bx, I f.bY, wsA f.ws]
abbrev clC (c : Cl) : List AV := [S c.name, I c.x, I c.y, I c.h, I c.dx, I c.dy]
abbrev rdsA (l : List Rd) : AV := rowOf 4 rdC default l
abbrev trsA (l : List Tr) : AV := rowOf 5 trC default l
abbrev ftsA (l : List Ft) : AV := rowOf 5 ftC default l
abbrev clsA (l : List Cl) : AV := rowOf 6 clC default l
abbrev scA (s : Sc) : AV := .agg [rdsA s.roads, trsA s.trees, ftsA s.fronts, clsA s.cols]

/-- The bounds that data has. -/
def small (n : Nat) : Prop := n ≤ 9223372036854775807
def Rd.ok (r : Rd) : Prop := small r.name.length ∧ small r.pts.length
def Ft.ok (f : Ft) : Prop := small f.ws.length
def Cl.ok (c : Cl) : Prop := small c.name.length
def Sc.ok (s : Sc) : Prop := small s.roads.length ∧ small s.trees.length ∧ small s.fronts.length ∧ small s.cols.length ∧ (∀ r ∈ s.roads, r.ok) ∧ (∀ f ∈ s.fronts, f.ok) ∧ ∀ c ∈ s.cols, c.ok

theorem idx_any {α : Type} (p : α → Bool) (l : List α) : decide (idx p l ≥ 0) = l.any p := by
  unfold idx
  cases h : l.findIdx? p with
  | none =>
    rw [List.findIdx?_eq_none_iff] at h
    have : l.any p = false := by
      rw [List.any_eq_false]
      intro x hx
      rw [h x hx]; simp
    rw [this]; rfl
  | some i =>
    have : l.any p = true := by
      rw [List.findIdx?_eq_some_iff_getElem] at h
      obtain ⟨hi, hp, _⟩ := h
      rw [List.any_eq_true]
      exact ⟨_, List.getElem_mem hi, hp⟩
    rw [this]; simp
end Go.Proofs.Am

/- MADE BY gen_idx.py: slices.IndexFunc and slices.ContainsFunc of the element types. -/
namespace Go.Proofs.Am
open Go
set_option maxRecDepth 100000

noncomputable abbrev fsI46 : List (Nat × Func) := [(46, Tryz.f46)]
theorem cI46 : CtxOK Tryz.prog (ctx [] fsI46) := ctx_ok (show FsOK Tryz.prog fsI46 from ⟨Tryz.func46, Tryz.call46, trivial⟩) rfl
theorem index46x {f : FuncId} (l : List Tr) (hlen : small l.length) (p : Tr → Bool) (hf : ∀ x ∈ l, Fun Tryz.prog f [(.agg (trC x))] (B (p x))) :
    Fun Tryz.prog 46 [rowOf 5 trC default l, .fn (.func f) []] (I (idx p l)) := by
  refine Fun.of_run cI46 rfl ?_
  refine Rn.stop 1000 rfl ?_
  refine Rn.loop trivial (fun i : Nat => [(0, rowOf 5 trC default l), (1, .fn (.func f) []), (7, I l.length), (8, I (i : Int))]) (fun _ => []) 0
    (fun i => i ≤ l.length ∧ ∀ j, j < i → p (l.getD j default) = false) (fun i => l.length - i) 0 ⟨Nat.zero_le _, fun j hj => absurd hj (by omega)⟩
    ⟨⟨rfl, rfl, rfl, rfl, rfl, .cons rfl (.refl rfl) (.cons rfl (.refl rfl) (.cons rfl (.refl rfl) (.cons rfl (.int _ _) .nil))), rfl⟩, trivial, .nil⟩ ?_
  rintro i ⟨hi, hall⟩ ih
  refine Rn.ite 1000 rfl (fun h => ?_) (fun h => ?_)
  · have h : i < l.length := by simpa using h
    have hmem : l.getD i default ∈ l := by
      rw [List.getD_eq_getElem?_getD, List.getElem?_eq_getElem h]; exact List.getElem_mem h
    refine Rn.asr 1000 rfl (by simp [inB, h]) ?_
    refine Rn.call 1000 rfl _ (hf _ hmem) ?_
    refine Rn.ite 1000 rfl (fun hp => ?_) (fun hp => ?_)
    · refine Rn.ret 1000 rfl rfl ?_
      exact congrArg I (idx_hit h hall hp).symm
    · refine Rn.stop 1000 rfl ?_
      refine Rn.weaken trivial ?_ (ih (i + 1) (by omega) ⟨h, fun j hj => ?_⟩)
      · exact ⟨⟨rfl, rfl, rfl, rfl, rfl, .cons rfl (.refl rfl) (.cons rfl (.refl rfl) (.cons rfl (.refl rfl) (.cons rfl (.eq rfl (congrArg I (w64_nat h hlen))) .nil))), rfl⟩, trivial, .nil⟩
      · rcases Nat.lt_or_ge j i with hj' | hj'
        · exact hall j hj'
        · have : j = i := by omega
          subst this
          exact hp
  · have h : ¬ i < l.length := by simpa using h
    have : i = l.length := by omega
    subst this
    exact Rn.ret 1000 rfl rfl (congrArg I (idx_none hall).symm)
theorem index46cx {f : FuncId} (cs : List AV) (l : List Tr) (hlen : small l.length) (p : Tr → Bool) (hf : ∀ x ∈ l, Fun Tryz.prog f [(.agg (trC x)), .pat cs 0] (B (p x))) :
    Fun Tryz.prog 46 [rowOf 5 trC default l, .fn (.func f) [.pat cs 0]] (I (idx p l)) := by
  refine Fun.of_run cI46 rfl ?_
  refine Rn.stop 1000 rfl ?_
  refine Rn.loop trivial (fun i : Nat => [(0, rowOf 5 trC default l), (1, .fn (.func f) [.pat cs 0]), (7, I l.length), (8, I (i : Int))]) (fun _ => []) 0
    (fun i => i ≤ l.length ∧ ∀ j, j < i → p (l.getD j default) = false) (fun i => l.length - i) 0 ⟨Nat.zero_le _, fun j hj => absurd hj (by omega)⟩
    ⟨⟨rfl, rfl, rfl, rfl, rfl, .cons rfl (.refl rfl) (.cons rfl (.refl rfl) (.cons rfl (.refl rfl) (.cons rfl (.int _ _) .nil))), rfl⟩, trivial, .nil⟩ ?_
  rintro i ⟨hi, hall⟩ ih
  refine Rn.ite 1000 rfl (fun h => ?_) (fun h => ?_)
  · have h : i < l.length := by simpa using h
    have hmem : l.getD i default ∈ l := by
      rw [List.getD_eq_getElem?_getD, List.getElem?_eq_getElem h]; exact List.getElem_mem h
    refine Rn.asr 1000 rfl (by simp [inB, h]) ?_
    refine Rn.call 1000 rfl _ (hf _ hmem) ?_
    refine Rn.ite 1000 rfl (fun hp => ?_) (fun hp => ?_)
    · refine Rn.ret 1000 rfl rfl ?_
      exact congrArg I (idx_hit h hall hp).symm
    · refine Rn.stop 1000 rfl ?_
      refine Rn.weaken trivial ?_ (ih (i + 1) (by omega) ⟨h, fun j hj => ?_⟩)
      · exact ⟨⟨rfl, rfl, rfl, rfl, rfl, .cons rfl (.refl rfl) (.cons rfl (.refl rfl) (.cons rfl (.refl rfl) (.cons rfl (.eq rfl (congrArg I (w64_nat h hlen))) .nil))), rfl⟩, trivial, .nil⟩
      · rcases Nat.lt_or_ge j i with hj' | hj'
        · exact hall j hj'
        · have : j = i := by omega
          subst this
          exact hp
  · have h : ¬ i < l.length := by simpa using h
    have : i = l.length := by omega
    subst this
    exact Rn.ret 1000 rfl rfl (congrArg I (idx_none hall).symm)
noncomputable abbrev fsI129 : List (Nat × Func) := [(129, Tryz.f129), (90, Tryz.f90)]
theorem cI129 : CtxOK Tryz.prog (ctx [] fsI129) := ctx_ok (show FsOK Tryz.prog fsI129 from ⟨Tryz.func129, Tryz.call129, Tryz.func90, Tryz.call90, trivial⟩) rfl
theorem index129x {f : FuncId} (l : List Rd) (hlen : small l.length) (p : Rd → Bool) (hf : ∀ x ∈ l, Fun Tryz.prog f [(.agg (rdC x))] (B (p x))) :
    Fun Tryz.prog 129 [rowOf 4 rdC default l, .fn (.func f) []] (I (idx p l)) := by
  refine Fun.of_run cI129 rfl ?_
  refine Rn.stop 1000 rfl ?_
  refine Rn.loop trivial (fun i : Nat => [(0, rowOf 4 rdC default l), (1, .fn (.func f) []), (7, I l.length), (8, I (i : Int))]) (fun _ => []) 0
    (fun i => i ≤ l.length ∧ ∀ j, j < i → p (l.getD j default) = false) (fun i => l.length - i) 0 ⟨Nat.zero_le _, fun j hj => absurd hj (by omega)⟩
    ⟨⟨rfl, rfl, rfl, rfl, rfl, .cons rfl (.refl rfl) (.cons rfl (.refl rfl) (.cons rfl (.refl rfl) (.cons rfl (.int _ _) .nil))), rfl⟩, trivial, .nil⟩ ?_
  rintro i ⟨hi, hall⟩ ih
  refine Rn.ite 1000 rfl (fun h => ?_) (fun h => ?_)
  · have h : i < l.length := by simpa using h
    have hmem : l.getD i default ∈ l := by
      rw [List.getD_eq_getElem?_getD, List.getElem?_eq_getElem h]; exact List.getElem_mem h
    refine Rn.asr 1000 rfl (by simp [inB, h]) ?_
    refine Rn.call 1000 rfl _ (hf _ hmem) ?_
    refine Rn.ite 1000 rfl (fun hp => ?_) (fun hp => ?_)
    · refine Rn.ret 1000 rfl rfl ?_
      exact congrArg I (idx_hit h hall hp).symm
    · refine Rn.stop 1000 rfl ?_
      refine Rn.weaken trivial ?_ (ih (i + 1) (by omega) ⟨h, fun j hj => ?_⟩)
      · exact ⟨⟨rfl, rfl, rfl, rfl, rfl, .cons rfl (.refl rfl) (.cons rfl (.refl rfl) (.cons rfl (.refl rfl) (.cons rfl (.eq rfl (congrArg I (w64_nat h hlen))) .nil))), rfl⟩, trivial, .nil⟩
      · rcases Nat.lt_or_ge j i with hj' | hj'
        · exact hall j hj'
        · have : j = i := by omega
          subst this
          exact hp
  · have h : ¬ i < l.length := by simpa using h
    have : i = l.length := by omega
    subst this
    exact Rn.ret 1000 rfl rfl (congrArg I (idx_none hall).symm)
theorem contains90x {f : FuncId} (l : List Rd) (hlen : small l.length) (p : Rd → Bool) (hf : ∀ x ∈ l, Fun Tryz.prog f [(.agg (rdC x))] (B (p x))) :
    Fun Tryz.prog 90 [rowOf 4 rdC default l, .fn (.func f) []] (B (l.any p)) := by
  refine Fun.of_run cI129 rfl ?_
  refine Rn.call 1000 rfl _ (index129x l hlen p hf) ?_
  refine Rn.ret 1000 rfl rfl ?_
  refine congrArg B ?_
  show decide (idx p l ≥ 0) = _
  exact idx_any p l
theorem index129cx {f : FuncId} (cs : List AV) (l : List Rd) (hlen : small l.length) (p : Rd → Bool) (hf : ∀ x ∈ l, Fun Tryz.prog f [(.agg (rdC x)), .pat cs 0] (B (p x))) :
    Fun Tryz.prog 129 [rowOf 4 rdC default l, .fn (.func f) [.pat cs 0]] (I (idx p l)) := by
  refine Fun.of_run cI129 rfl ?_
  refine Rn.stop 1000 rfl ?_
  refine Rn.loop trivial (fun i : Nat => [(0, rowOf 4 rdC default l), (1, .fn (.func f) [.pat cs 0]), (7, I l.length), (8, I (i : Int))]) (fun _ => []) 0
    (fun i => i ≤ l.length ∧ ∀ j, j < i → p (l.getD j default) = false) (fun i => l.length - i) 0 ⟨Nat.zero_le _, fun j hj => absurd hj (by omega)⟩
    ⟨⟨rfl, rfl, rfl, rfl, rfl, .cons rfl (.refl rfl) (.cons rfl (.refl rfl) (.cons rfl (.refl rfl) (.cons rfl (.int _ _) .nil))), rfl⟩, trivial, .nil⟩ ?_
  rintro i ⟨hi, hall⟩ ih
  refine Rn.ite 1000 rfl (fun h => ?_) (fun h => ?_)
  · have h : i < l.length := by simpa using h
    have hmem : l.getD i default ∈ l := by
      rw [List.getD_eq_getElem?_getD, List.getElem?_eq_getElem h]; exact List.getElem_mem h
    refine Rn.asr 1000 rfl (by simp [inB, h]) ?_
    refine Rn.call 1000 rfl _ (hf _ hmem) ?_
    refine Rn.ite 1000 rfl (fun hp => ?_) (fun hp => ?_)
    · refine Rn.ret 1000 rfl rfl ?_
      exact congrArg I (idx_hit h hall hp).symm
    · refine Rn.stop 1000 rfl ?_
      refine Rn.weaken trivial ?_ (ih (i + 1) (by omega) ⟨h, fun j hj => ?_⟩)
      · exact ⟨⟨rfl, rfl, rfl, rfl, rfl, .cons rfl (.refl rfl) (.cons rfl (.refl rfl) (.cons rfl (.refl rfl) (.cons rfl (.eq rfl (congrArg I (w64_nat h hlen))) .nil))), rfl⟩, trivial, .nil⟩
      · rcases Nat.lt_or_ge j i with hj' | hj'
        · exact hall j hj'
        · have : j = i := by omega
          subst this
          exact hp
  · have h : ¬ i < l.length := by simpa using h
    have : i = l.length := by omega
    subst this
    exact Rn.ret 1000 rfl rfl (congrArg I (idx_none hall).symm)
theorem contains90cx {f : FuncId} (cs : List AV) (l : List Rd) (hlen : small l.length) (p : Rd → Bool) (hf : ∀ x ∈ l, Fun Tryz.prog f [(.agg (rdC x)), .pat cs 0] (B (p x))) :
    Fun Tryz.prog 90 [rowOf 4 rdC default l, .fn (.func f) [.pat cs 0]] (B (l.any p)) := by
  refine Fun.of_run cI129 rfl ?_
  refine Rn.call 1000 rfl _ (index129cx cs l hlen p hf) ?_
  refine Rn.ret 1000 rfl rfl ?_
  refine congrArg B ?_
  show decide (idx p l ≥ 0) = _
  exact idx_any p l
noncomputable abbrev fsI133 : List (Nat × Func) := [(133, Tryz.f133), (99, Tryz.f99)]
theorem cI133 : CtxOK Tryz.prog (ctx [] fsI133) := ctx_ok (show FsOK Tryz.prog fsI133 from ⟨Tryz.func133, Tryz.call133, Tryz.func99, Tryz.call99, trivial⟩) rfl
theorem index133x {f : FuncId} (l : List Int) (hlen : small l.length) (p : Int → Bool) (hf : ∀ x ∈ l, Fun Tryz.prog f [(I x)] (B (p x))) :
    Fun Tryz.prog 133 [rowOf 1 iC 0 l, .fn (.func f) []] (I (idx p l)) := by
  refine Fun.of_run cI133 rfl ?_
  refine Rn.stop 1000 rfl ?_
  refine Rn.loop trivial (fun i : Nat => [(0, rowOf 1 iC 0 l), (1, .fn (.func f) []), (7, I l.length), (8, I (i : Int))]) (fun _ => []) 0
    (fun i => i ≤ l.length ∧ ∀ j, j < i → p (l.getD j 0) = false) (fun i => l.length - i) 0 ⟨Nat.zero_le _, fun j hj => absurd hj (by omega)⟩
    ⟨⟨rfl, rfl, rfl, rfl, rfl, .cons rfl (.refl rfl) (.cons rfl (.refl rfl) (.cons rfl (.refl rfl) (.cons rfl (.int _ _) .nil))), rfl⟩, trivial, .nil⟩ ?_
  rintro i ⟨hi, hall⟩ ih
  refine Rn.ite 1000 rfl (fun h => ?_) (fun h => ?_)
  · have h : i < l.length := by simpa using h
    have hmem : l.getD i 0 ∈ l := by
      rw [List.getD_eq_getElem?_getD, List.getElem?_eq_getElem h]; exact List.getElem_mem h
    refine Rn.asr 1000 rfl (by simp [inB, h]) ?_
    refine Rn.call 1000 rfl _ (hf _ hmem) ?_
    refine Rn.ite 1000 rfl (fun hp => ?_) (fun hp => ?_)
    · refine Rn.ret 1000 rfl rfl ?_
      exact congrArg I (idx_hit h hall hp).symm
    · refine Rn.stop 1000 rfl ?_
      refine Rn.weaken trivial ?_ (ih (i + 1) (by omega) ⟨h, fun j hj => ?_⟩)
      · exact ⟨⟨rfl, rfl, rfl, rfl, rfl, .cons rfl (.refl rfl) (.cons rfl (.refl rfl) (.cons rfl (.refl rfl) (.cons rfl (.eq rfl (congrArg I (w64_nat h hlen))) .nil))), rfl⟩, trivial, .nil⟩
      · rcases Nat.lt_or_ge j i with hj' | hj'
        · exact hall j hj'
        · have : j = i := by omega
          subst this
          exact hp
  · have h : ¬ i < l.length := by simpa using h
    have : i = l.length := by omega
    subst this
    exact Rn.ret 1000 rfl rfl (congrArg I (idx_none hall).symm)
theorem contains99x {f : FuncId} (l : List Int) (hlen : small l.length) (p : Int → Bool) (hf : ∀ x ∈ l, Fun Tryz.prog f [(I x)] (B (p x))) :
    Fun Tryz.prog 99 [rowOf 1 iC 0 l, .fn (.func f) []] (B (l.any p)) := by
  refine Fun.of_run cI133 rfl ?_
  refine Rn.call 1000 rfl _ (index133x l hlen p hf) ?_
  refine Rn.ret 1000 rfl rfl ?_
  refine congrArg B ?_
  show decide (idx p l ≥ 0) = _
  exact idx_any p l
theorem index133cx {f : FuncId} (cs : List AV) (l : List Int) (hlen : small l.length) (p : Int → Bool) (hf : ∀ x ∈ l, Fun Tryz.prog f [(I x), .pat cs 0] (B (p x))) :
    Fun Tryz.prog 133 [rowOf 1 iC 0 l, .fn (.func f) [.pat cs 0]] (I (idx p l)) := by
  refine Fun.of_run cI133 rfl ?_
  refine Rn.stop 1000 rfl ?_
  refine Rn.loop trivial (fun i : Nat => [(0, rowOf 1 iC 0 l), (1, .fn (.func f) [.pat cs 0]), (7, I l.length), (8, I (i : Int))]) (fun _ => []) 0
    (fun i => i ≤ l.length ∧ ∀ j, j < i → p (l.getD j 0) = false) (fun i => l.length - i) 0 ⟨Nat.zero_le _, fun j hj => absurd hj (by omega)⟩
    ⟨⟨rfl, rfl, rfl, rfl, rfl, .cons rfl (.refl rfl) (.cons rfl (.refl rfl) (.cons rfl (.refl rfl) (.cons rfl (.int _ _) .nil))), rfl⟩, trivial, .nil⟩ ?_
  rintro i ⟨hi, hall⟩ ih
  refine Rn.ite 1000 rfl (fun h => ?_) (fun h => ?_)
  · have h : i < l.length := by simpa using h
    have hmem : l.getD i 0 ∈ l := by
      rw [List.getD_eq_getElem?_getD, List.getElem?_eq_getElem h]; exact List.getElem_mem h
    refine Rn.asr 1000 rfl (by simp [inB, h]) ?_
    refine Rn.call 1000 rfl _ (hf _ hmem) ?_
    refine Rn.ite 1000 rfl (fun hp => ?_) (fun hp => ?_)
    · refine Rn.ret 1000 rfl rfl ?_
      exact congrArg I (idx_hit h hall hp).symm
    · refine Rn.stop 1000 rfl ?_
      refine Rn.weaken trivial ?_ (ih (i + 1) (by omega) ⟨h, fun j hj => ?_⟩)
      · exact ⟨⟨rfl, rfl, rfl, rfl, rfl, .cons rfl (.refl rfl) (.cons rfl (.refl rfl) (.cons rfl (.refl rfl) (.cons rfl (.eq rfl (congrArg I (w64_nat h hlen))) .nil))), rfl⟩, trivial, .nil⟩
      · rcases Nat.lt_or_ge j i with hj' | hj'
        · exact hall j hj'
        · have : j = i := by omega
          subst this
          exact hp
  · have h : ¬ i < l.length := by simpa using h
    have : i = l.length := by omega
    subst this
    exact Rn.ret 1000 rfl rfl (congrArg I (idx_none hall).symm)
theorem contains99cx {f : FuncId} (cs : List AV) (l : List Int) (hlen : small l.length) (p : Int → Bool) (hf : ∀ x ∈ l, Fun Tryz.prog f [(I x), .pat cs 0] (B (p x))) :
    Fun Tryz.prog 99 [rowOf 1 iC 0 l, .fn (.func f) [.pat cs 0]] (B (l.any p)) := by
  refine Fun.of_run cI133 rfl ?_
  refine Rn.call 1000 rfl _ (index133cx cs l hlen p hf) ?_
  refine Rn.ret 1000 rfl rfl ?_
  refine congrArg B ?_
  show decide (idx p l ≥ 0) = _
  exact idx_any p l
noncomputable abbrev fsI147 : List (Nat × Func) := [(147, Tryz.f147), (115, Tryz.f115)]
theorem cI147 : CtxOK Tryz.prog (ctx [] fsI147) := ctx_ok (show FsOK Tryz.prog fsI147 from ⟨Tryz.func147, Tryz.call147, Tryz.func115, Tryz.call115, trivial⟩) rfl
theorem index147x {f : FuncId} (l : List (Int × Int)) (hlen : small l.length) (p : (Int × Int) → Bool) (hf : ∀ x ∈ l, Fun Tryz.prog f [(.agg (ptC x))] (B (p x))) :
    Fun Tryz.prog 147 [rowOf 2 ptC (0, 0) l, .fn (.func f) []] (I (idx p l)) := by
  refine Fun.of_run cI147 rfl ?_
  refine Rn.stop 1000 rfl ?_
  refine Rn.loop trivial (fun i : Nat => [(0, rowOf 2 ptC (0, 0) l), (1, .fn (.func f) []), (7, I l.length), (8, I (i : Int))]) (fun _ => []) 0
    (fun i => i ≤ l.length ∧ ∀ j, j < i → p (l.getD j (0, 0)) = false) (fun i => l.length - i) 0 ⟨Nat.zero_le _, fun j hj => absurd hj (by omega)⟩
    ⟨⟨rfl, rfl, rfl, rfl, rfl, .cons rfl (.refl rfl) (.cons rfl (.refl rfl) (.cons rfl (.refl rfl) (.cons rfl (.int _ _) .nil))), rfl⟩, trivial, .nil⟩ ?_
  rintro i ⟨hi, hall⟩ ih
  refine Rn.ite 1000 rfl (fun h => ?_) (fun h => ?_)
  · have h : i < l.length := by simpa using h
    have hmem : l.getD i (0, 0) ∈ l := by
      rw [List.getD_eq_getElem?_getD, List.getElem?_eq_getElem h]; exact List.getElem_mem h
    refine Rn.asr 1000 rfl (by simp [inB, h]) ?_
    refine Rn.call 1000 rfl _ (hf _ hmem) ?_
    refine Rn.ite 1000 rfl (fun hp => ?_) (fun hp => ?_)
    · refine Rn.ret 1000 rfl rfl ?_
      exact congrArg I (idx_hit h hall hp).symm
    · refine Rn.stop 1000 rfl ?_
      refine Rn.weaken trivial ?_ (ih (i + 1) (by omega) ⟨h, fun j hj => ?_⟩)
      · exact ⟨⟨rfl, rfl, rfl, rfl, rfl, .cons rfl (.refl rfl) (.cons rfl (.refl rfl) (.cons rfl (.refl rfl) (.cons rfl (.eq rfl (congrArg I (w64_nat h hlen))) .nil))), rfl⟩, trivial, .nil⟩
      · rcases Nat.lt_or_ge j i with hj' | hj'
        · exact hall j hj'
        · have : j = i := by omega
          subst this
          exact hp
  · have h : ¬ i < l.length := by simpa using h
    have : i = l.length := by omega
    subst this
    exact Rn.ret 1000 rfl rfl (congrArg I (idx_none hall).symm)
theorem contains115x {f : FuncId} (l : List (Int × Int)) (hlen : small l.length) (p : (Int × Int) → Bool) (hf : ∀ x ∈ l, Fun Tryz.prog f [(.agg (ptC x))] (B (p x))) :
    Fun Tryz.prog 115 [rowOf 2 ptC (0, 0) l, .fn (.func f) []] (B (l.any p)) := by
  refine Fun.of_run cI147 rfl ?_
  refine Rn.call 1000 rfl _ (index147x l hlen p hf) ?_
  refine Rn.ret 1000 rfl rfl ?_
  refine congrArg B ?_
  show decide (idx p l ≥ 0) = _
  exact idx_any p l
theorem index147cx {f : FuncId} (cs : List AV) (l : List (Int × Int)) (hlen : small l.length) (p : (Int × Int) → Bool) (hf : ∀ x ∈ l, Fun Tryz.prog f [(.agg (ptC x)), .pat cs 0] (B (p x))) :
    Fun Tryz.prog 147 [rowOf 2 ptC (0, 0) l, .fn (.func f) [.pat cs 0]] (I (idx p l)) := by
  refine Fun.of_run cI147 rfl ?_
  refine Rn.stop 1000 rfl ?_
  refine Rn.loop trivial (fun i : Nat => [(0, rowOf 2 ptC (0, 0) l), (1, .fn (.func f) [.pat cs 0]), (7, I l.length), (8, I (i : Int))]) (fun _ => []) 0
    (fun i => i ≤ l.length ∧ ∀ j, j < i → p (l.getD j (0, 0)) = false) (fun i => l.length - i) 0 ⟨Nat.zero_le _, fun j hj => absurd hj (by omega)⟩
    ⟨⟨rfl, rfl, rfl, rfl, rfl, .cons rfl (.refl rfl) (.cons rfl (.refl rfl) (.cons rfl (.refl rfl) (.cons rfl (.int _ _) .nil))), rfl⟩, trivial, .nil⟩ ?_
  rintro i ⟨hi, hall⟩ ih
  refine Rn.ite 1000 rfl (fun h => ?_) (fun h => ?_)
  · have h : i < l.length := by simpa using h
    have hmem : l.getD i (0, 0) ∈ l := by
      rw [List.getD_eq_getElem?_getD, List.getElem?_eq_getElem h]; exact List.getElem_mem h
    refine Rn.asr 1000 rfl (by simp [inB, h]) ?_
    refine Rn.call 1000 rfl _ (hf _ hmem) ?_
    refine Rn.ite 1000 rfl (fun hp => ?_) (fun hp => ?_)
    · refine Rn.ret 1000 rfl rfl ?_
      exact congrArg I (idx_hit h hall hp).symm
    · refine Rn.stop 1000 rfl ?_
      refine Rn.weaken trivial ?_ (ih (i + 1) (by omega) ⟨h, fun j hj => ?_⟩)
      · exact ⟨⟨rfl, rfl, rfl, rfl, rfl, .cons rfl (.refl rfl) (.cons rfl (.refl rfl) (.cons rfl (.refl rfl) (.cons rfl (.eq rfl (congrArg I (w64_nat h hlen))) .nil))), rfl⟩, trivial, .nil⟩
      · rcases Nat.lt_or_ge j i with hj' | hj'
        · exact hall j hj'
        · have : j = i := by omega
          subst this
          exact hp
  · have h : ¬ i < l.length := by simpa using h
    have : i = l.length := by omega
    subst this
    exact Rn.ret 1000 rfl rfl (congrArg I (idx_none hall).symm)
theorem contains115cx {f : FuncId} (cs : List AV) (l : List (Int × Int)) (hlen : small l.length) (p : (Int × Int) → Bool) (hf : ∀ x ∈ l, Fun Tryz.prog f [(.agg (ptC x)), .pat cs 0] (B (p x))) :
    Fun Tryz.prog 115 [rowOf 2 ptC (0, 0) l, .fn (.func f) [.pat cs 0]] (B (l.any p)) := by
  refine Fun.of_run cI147 rfl ?_
  refine Rn.call 1000 rfl _ (index147cx cs l hlen p hf) ?_
  refine Rn.ret 1000 rfl rfl ?_
  refine congrArg B ?_
  show decide (idx p l ≥ 0) = _
  exact idx_any p l
noncomputable abbrev fsI148 : List (Nat × Func) := [(148, Tryz.f148), (119, Tryz.f119)]
theorem cI148 : CtxOK Tryz.prog (ctx [] fsI148) := ctx_ok (show FsOK Tryz.prog fsI148 from ⟨Tryz.func148, Tryz.call148, Tryz.func119, Tryz.call119, trivial⟩) rfl
theorem index148x {f : FuncId} (l : List Wn) (hlen : small l.length) (p : Wn → Bool) (hf : ∀ x ∈ l, Fun Tryz.prog f [(.agg (wnC x))] (B (p x))) :
    Fun Tryz.prog 148 [rowOf 4 wnC default l, .fn (.func f) []] (I (idx p l)) := by
  refine Fun.of_run cI148 rfl ?_
  refine Rn.stop 1000 rfl ?_
  refine Rn.loop trivial (fun i : Nat => [(0, rowOf 4 wnC default l), (1, .fn (.func f) []), (7, I l.length), (8, I (i : Int))]) (fun _ => []) 0
    (fun i => i ≤ l.length ∧ ∀ j, j < i → p (l.getD j default) = false) (fun i => l.length - i) 0 ⟨Nat.zero_le _, fun j hj => absurd hj (by omega)⟩
    ⟨⟨rfl, rfl, rfl, rfl, rfl, .cons rfl (.refl rfl) (.cons rfl (.refl rfl) (.cons rfl (.refl rfl) (.cons rfl (.int _ _) .nil))), rfl⟩, trivial, .nil⟩ ?_
  rintro i ⟨hi, hall⟩ ih
  refine Rn.ite 1000 rfl (fun h => ?_) (fun h => ?_)
  · have h : i < l.length := by simpa using h
    have hmem : l.getD i default ∈ l := by
      rw [List.getD_eq_getElem?_getD, List.getElem?_eq_getElem h]; exact List.getElem_mem h
    refine Rn.asr 1000 rfl (by simp [inB, h]) ?_
    refine Rn.call 1000 rfl _ (hf _ hmem) ?_
    refine Rn.ite 1000 rfl (fun hp => ?_) (fun hp => ?_)
    · refine Rn.ret 1000 rfl rfl ?_
      exact congrArg I (idx_hit h hall hp).symm
    · refine Rn.stop 1000 rfl ?_
      refine Rn.weaken trivial ?_ (ih (i + 1) (by omega) ⟨h, fun j hj => ?_⟩)
      · exact ⟨⟨rfl, rfl, rfl, rfl, rfl, .cons rfl (.refl rfl) (.cons rfl (.refl rfl) (.cons rfl (.refl rfl) (.cons rfl (.eq rfl (congrArg I (w64_nat h hlen))) .nil))), rfl⟩, trivial, .nil⟩
      · rcases Nat.lt_or_ge j i with hj' | hj'
        · exact hall j hj'
        · have : j = i := by omega
          subst this
          exact hp
  · have h : ¬ i < l.length := by simpa using h
    have : i = l.length := by omega
    subst this
    exact Rn.ret 1000 rfl rfl (congrArg I (idx_none hall).symm)
theorem contains119x {f : FuncId} (l : List Wn) (hlen : small l.length) (p : Wn → Bool) (hf : ∀ x ∈ l, Fun Tryz.prog f [(.agg (wnC x))] (B (p x))) :
    Fun Tryz.prog 119 [rowOf 4 wnC default l, .fn (.func f) []] (B (l.any p)) := by
  refine Fun.of_run cI148 rfl ?_
  refine Rn.call 1000 rfl _ (index148x l hlen p hf) ?_
  refine Rn.ret 1000 rfl rfl ?_
  refine congrArg B ?_
  show decide (idx p l ≥ 0) = _
  exact idx_any p l
theorem index148cx {f : FuncId} (cs : List AV) (l : List Wn) (hlen : small l.length) (p : Wn → Bool) (hf : ∀ x ∈ l, Fun Tryz.prog f [(.agg (wnC x)), .pat cs 0] (B (p x))) :
    Fun Tryz.prog 148 [rowOf 4 wnC default l, .fn (.func f) [.pat cs 0]] (I (idx p l)) := by
  refine Fun.of_run cI148 rfl ?_
  refine Rn.stop 1000 rfl ?_
  refine Rn.loop trivial (fun i : Nat => [(0, rowOf 4 wnC default l), (1, .fn (.func f) [.pat cs 0]), (7, I l.length), (8, I (i : Int))]) (fun _ => []) 0
    (fun i => i ≤ l.length ∧ ∀ j, j < i → p (l.getD j default) = false) (fun i => l.length - i) 0 ⟨Nat.zero_le _, fun j hj => absurd hj (by omega)⟩
    ⟨⟨rfl, rfl, rfl, rfl, rfl, .cons rfl (.refl rfl) (.cons rfl (.refl rfl) (.cons rfl (.refl rfl) (.cons rfl (.int _ _) .nil))), rfl⟩, trivial, .nil⟩ ?_
  rintro i ⟨hi, hall⟩ ih
  refine Rn.ite 1000 rfl (fun h => ?_) (fun h => ?_)
  · have h : i < l.length := by simpa using h
    have hmem : l.getD i default ∈ l := by
      rw [List.getD_eq_getElem?_getD, List.getElem?_eq_getElem h]; exact List.getElem_mem h
    refine Rn.asr 1000 rfl (by simp [inB, h]) ?_
    refine Rn.call 1000 rfl _ (hf _ hmem) ?_
    refine Rn.ite 1000 rfl (fun hp => ?_) (fun hp => ?_)
    · refine Rn.ret 1000 rfl rfl ?_
      exact congrArg I (idx_hit h hall hp).symm
    · refine Rn.stop 1000 rfl ?_
      refine Rn.weaken trivial ?_ (ih (i + 1) (by omega) ⟨h, fun j hj => ?_⟩)
      · exact ⟨⟨rfl, rfl, rfl, rfl, rfl, .cons rfl (.refl rfl) (.cons rfl (.refl rfl) (.cons rfl (.refl rfl) (.cons rfl (.eq rfl (congrArg I (w64_nat h hlen))) .nil))), rfl⟩, trivial, .nil⟩
      · rcases Nat.lt_or_ge j i with hj' | hj'
        · exact hall j hj'
        · have : j = i := by omega
          subst this
          exact hp
  · have h : ¬ i < l.length := by simpa using h
    have : i = l.length := by omega
    subst this
    exact Rn.ret 1000 rfl rfl (congrArg I (idx_none hall).symm)
theorem contains119cx {f : FuncId} (cs : List AV) (l : List Wn) (hlen : small l.length) (p : Wn → Bool) (hf : ∀ x ∈ l, Fun Tryz.prog f [(.agg (wnC x)), .pat cs 0] (B (p x))) :
    Fun Tryz.prog 119 [rowOf 4 wnC default l, .fn (.func f) [.pat cs 0]] (B (l.any p)) := by
  refine Fun.of_run cI148 rfl ?_
  refine Rn.call 1000 rfl _ (index148cx cs l hlen p hf) ?_
  refine Rn.ret 1000 rfl rfl ?_
  refine congrArg B ?_
  show decide (idx p l ≥ 0) = _
  exact idx_any p l
noncomputable abbrev fsI149 : List (Nat × Func) := [(149, Tryz.f149), (121, Tryz.f121)]
theorem cI149 : CtxOK Tryz.prog (ctx [] fsI149) := ctx_ok (show FsOK Tryz.prog fsI149 from ⟨Tryz.func149, Tryz.call149, Tryz.func121, Tryz.call121, trivial⟩) rfl
theorem index149x {f : FuncId} (l : List Cl) (hlen : small l.length) (p : Cl → Bool) (hf : ∀ x ∈ l, Fun Tryz.prog f [(.agg (clC x))] (B (p x))) :
    Fun Tryz.prog 149 [rowOf 6 clC default l, .fn (.func f) []] (I (idx p l)) := by
  refine Fun.of_run cI149 rfl ?_
  refine Rn.stop 1000 rfl ?_
  refine Rn.loop trivial (fun i : Nat => [(0, rowOf 6 clC default l), (1, .fn (.func f) []), (7, I l.length), (8, I (i : Int))]) (fun _ => []) 0
    (fun i => i ≤ l.length ∧ ∀ j, j < i → p (l.getD j default) = false) (fun i => l.length - i) 0 ⟨Nat.zero_le _, fun j hj => absurd hj (by omega)⟩
    ⟨⟨rfl, rfl, rfl, rfl, rfl, .cons rfl (.refl rfl) (.cons rfl (.refl rfl) (.cons rfl (.refl rfl) (.cons rfl (.int _ _) .nil))), rfl⟩, trivial, .nil⟩ ?_
  rintro i ⟨hi, hall⟩ ih
  refine Rn.ite 1000 rfl (fun h => ?_) (fun h => ?_)
  · have h : i < l.length := by simpa using h
    have hmem : l.getD i default ∈ l := by
      rw [List.getD_eq_getElem?_getD, List.getElem?_eq_getElem h]; exact List.getElem_mem h
    refine Rn.asr 1000 rfl (by simp [inB, h]) ?_
    refine Rn.call 1000 rfl _ (hf _ hmem) ?_
    refine Rn.ite 1000 rfl (fun hp => ?_) (fun hp => ?_)
    · refine Rn.ret 1000 rfl rfl ?_
      exact congrArg I (idx_hit h hall hp).symm
    · refine Rn.stop 1000 rfl ?_
      refine Rn.weaken trivial ?_ (ih (i + 1) (by omega) ⟨h, fun j hj => ?_⟩)
      · exact ⟨⟨rfl, rfl, rfl, rfl, rfl, .cons rfl (.refl rfl) (.cons rfl (.refl rfl) (.cons rfl (.refl rfl) (.cons rfl (.eq rfl (congrArg I (w64_nat h hlen))) .nil))), rfl⟩, trivial, .nil⟩
      · rcases Nat.lt_or_ge j i with hj' | hj'
        · exact hall j hj'
        · have : j = i := by omega
          subst this
          exact hp
  · have h : ¬ i < l.length := by simpa using h
    have : i = l.length := by omega
    subst this
    exact Rn.ret 1000 rfl rfl (congrArg I (idx_none hall).symm)
theorem contains121x {f : FuncId} (l : List Cl) (hlen : small l.length) (p : Cl → Bool) (hf : ∀ x ∈ l, Fun Tryz.prog f [(.agg (clC x))] (B (p x))) :
    Fun Tryz.prog 121 [rowOf 6 clC default l, .fn (.func f) []] (B (l.any p)) := by
  refine Fun.of_run cI149 rfl ?_
  refine Rn.call 1000 rfl _ (index149x l hlen p hf) ?_
  refine Rn.ret 1000 rfl rfl ?_
  refine congrArg B ?_
  show decide (idx p l ≥ 0) = _
  exact idx_any p l
theorem index149cx {f : FuncId} (cs : List AV) (l : List Cl) (hlen : small l.length) (p : Cl → Bool) (hf : ∀ x ∈ l, Fun Tryz.prog f [(.agg (clC x)), .pat cs 0] (B (p x))) :
    Fun Tryz.prog 149 [rowOf 6 clC default l, .fn (.func f) [.pat cs 0]] (I (idx p l)) := by
  refine Fun.of_run cI149 rfl ?_
  refine Rn.stop 1000 rfl ?_
  refine Rn.loop trivial (fun i : Nat => [(0, rowOf 6 clC default l), (1, .fn (.func f) [.pat cs 0]), (7, I l.length), (8, I (i : Int))]) (fun _ => []) 0
    (fun i => i ≤ l.length ∧ ∀ j, j < i → p (l.getD j default) = false) (fun i => l.length - i) 0 ⟨Nat.zero_le _, fun j hj => absurd hj (by omega)⟩
    ⟨⟨rfl, rfl, rfl, rfl, rfl, .cons rfl (.refl rfl) (.cons rfl (.refl rfl) (.cons rfl (.refl rfl) (.cons rfl (.int _ _) .nil))), rfl⟩, trivial, .nil⟩ ?_
  rintro i ⟨hi, hall⟩ ih
  refine Rn.ite 1000 rfl (fun h => ?_) (fun h => ?_)
  · have h : i < l.length := by simpa using h
    have hmem : l.getD i default ∈ l := by
      rw [List.getD_eq_getElem?_getD, List.getElem?_eq_getElem h]; exact List.getElem_mem h
    refine Rn.asr 1000 rfl (by simp [inB, h]) ?_
    refine Rn.call 1000 rfl _ (hf _ hmem) ?_
    refine Rn.ite 1000 rfl (fun hp => ?_) (fun hp => ?_)
    · refine Rn.ret 1000 rfl rfl ?_
      exact congrArg I (idx_hit h hall hp).symm
    · refine Rn.stop 1000 rfl ?_
      refine Rn.weaken trivial ?_ (ih (i + 1) (by omega) ⟨h, fun j hj => ?_⟩)
      · exact ⟨⟨rfl, rfl, rfl, rfl, rfl, .cons rfl (.refl rfl) (.cons rfl (.refl rfl) (.cons rfl (.refl rfl) (.cons rfl (.eq rfl (congrArg I (w64_nat h hlen))) .nil))), rfl⟩, trivial, .nil⟩
      · rcases Nat.lt_or_ge j i with hj' | hj'
        · exact hall j hj'
        · have : j = i := by omega
          subst this
          exact hp
  · have h : ¬ i < l.length := by simpa using h
    have : i = l.length := by omega
    subst this
    exact Rn.ret 1000 rfl rfl (congrArg I (idx_none hall).symm)
theorem contains121cx {f : FuncId} (cs : List AV) (l : List Cl) (hlen : small l.length) (p : Cl → Bool) (hf : ∀ x ∈ l, Fun Tryz.prog f [(.agg (clC x)), .pat cs 0] (B (p x))) :
    Fun Tryz.prog 121 [rowOf 6 clC default l, .fn (.func f) [.pat cs 0]] (B (l.any p)) := by
  refine Fun.of_run cI149 rfl ?_
  refine Rn.call 1000 rfl _ (index149cx cs l hlen p hf) ?_
  refine Rn.ret 1000 rfl rfl ?_
  refine congrArg B ?_
  show decide (idx p l ≥ 0) = _
  exact idx_any p l
end Go.Proofs.Am

/- Small functions: coordinates as stated, corners, and their like. -/
namespace Go.Proofs.Am
open Go
set_option maxRecDepth 100000

/-- Arguments may be told in another way. -/
def ArgTo (a a' : AV) : Prop := ∀ (m : Mem) (v : Value), RelC m a v → RelC m a' v
theorem ArgTo.refl (a : AV) : ArgTo a a := fun _ _ h => h
def ArgsTo : List AV → List AV → Prop
  | [], [] => True
  | a :: r, a' :: r' => ArgTo a a' ∧ ArgsTo r r'
  | _, _ => False
theorem ArgsTo.rel : ∀ {l l' : List AV}, ArgsTo l l' → ∀ (m : Mem) (vs : List Value), RelCL m l vs → RelCL m l' vs
  | [], [], _, m, vs, h => h
  | a :: l, a' :: l', h, m, vs, hr => by
    obtain ⟨x, xs, rfl, hx, hxs⟩ := hr.cons_inv
    exact .cons (h.1 m x hx) (ArgsTo.rel h.2 m xs hxs)
  | [], _ :: _, h, _, _, _ => h.elim
  | _ :: _, [], h, _, _, _ => h.elim
theorem Fun.args {P : Program} {f : FuncId} {l l' : List AV} {r : AV} (h : ArgsTo l l') (hf : Fun P f l' r) : Fun P f l r :=
  ⟨hf.1, fun m w vs hm ha => hf.2 m w vs hm (h.rel m vs.toList ha)⟩

theorem rsl_to {n sz : Nat} {get get' : Nat → List AV} (h : ∀ i, i < n → get' i = get i) : ArgTo (.rsl n sz get) (.rsl n sz get') := fun m v r => by
  cases r with
  | rsl0 _ _ a cap => exact .rsl0 sz get' a cap
  | rsl _ _ _ bk o cap u hc hl hcell h1 hr =>
    refine .rsl n sz get' bk o cap u hc (fun i hi => by rw [h i hi]; exact hl i hi) hcell h1 fun i hi j hj => ?_
    have e := h i hi
    have hj' : j < (get i).length := by rw [← e]; exact hj
    have := hr i hi j hj'
    have e2 : (get' i)[j] = (get i)[j] := by simp only [e]
    rw [e2]; exact this

/-- The numbers of a call with any number of them. -/
abbrev varA (l : List Int) : AV := .rsl l.length 1 (fun i => sub (l.map I) (0 + i * 1) 1)
theorem varA_to (l : List Int) : ArgTo (varA l) (rowOf 1 iC 0 l) := rsl_to fun i hi => by
  simp [sub, List.getD_eq_getElem?_getD, hi]
  rw [List.drop_eq_getElem_cons (by simpa using hi)]
  simp

noncomputable abbrev fsB : List (Nat × Func) := [(45, Tryz.f45), (100, Tryz.f100), (51, Tryz.f51), (53, Tryz.f53), (58, Tryz.f58), (54, Tryz.f54), (59, Tryz.f59)]
theorem cB : CtxOK Tryz.prog (ctx [] fsB) := ctx_ok (show FsOK Tryz.prog fsB from ⟨Tryz.func45, Tryz.call45, Tryz.func100, Tryz.call100, Tryz.func51, Tryz.call51, Tryz.func53, Tryz.call53, Tryz.func58, Tryz.call58, Tryz.func54, Tryz.call54, Tryz.func59, Tryz.call59, trivial⟩) rfl

def farB (x : Int) : Bool := outB x (-100000) 100000
def wildB (l : List Int) : Bool := l.any farB
theorem far_fun (x : Int) : Fun Tryz.prog 100 [I x] (B (farB x)) := by
  refine Fun.of_run cB rfl ?_
  refine Rn.call 1000 rfl _ (out_fun x (-100000) 100000) ?_
  exact Rn.ret 1000 rfl rfl rfl
theorem wild_fun (l : List Int) (hlen : small l.length) : Fun Tryz.prog 45 [varA l] (B (wildB l)) := by
  refine Fun.args (l' := [rowOf 1 iC 0 l]) ⟨varA_to l, trivial⟩ ?_
  refine Fun.of_run cB rfl ?_
  refine Rn.call 1000 rfl _ (contains99x l hlen farB fun x _ => far_fun x) ?_
  exact Rn.ret 1000 rfl rfl rfl

theorem wildB_hit {l : List Int} {i : Nat} (h : i < l.length) (hp : farB (l.getD i 0) = true) : wildB l = true := by
  unfold wildB
  rw [List.any_eq_true]
  refine ⟨l.getD i 0, ?_, hp⟩
  rw [List.getD_eq_getElem?_getD, List.getElem?_eq_getElem h]; exact List.getElem_mem h
theorem wildB_none {l : List Int} (h : ∀ j, j < l.length → farB (l.getD j 0) = false) : wildB l = false := by
  unfold wildB
  rw [List.any_eq_false]
  intro x hx
  obtain ⟨j, hj, rfl⟩ := List.mem_iff_getElem.1 hx
  have := h j hj
  rw [List.getD_eq_getElem?_getD, List.getElem?_eq_getElem hj] at this
  simpa using this

theorem placed_fun (l : List Int) (hlen : small l.length) : Fun Tryz.prog 51 [varA l] (B (!wildB l)) := by
  refine Fun.args (l' := [rowOf 1 iC 0 l]) ⟨varA_to l, trivial⟩ ?_
  refine Fun.of_run cB rfl ?_
  refine Rn.stop 1000 rfl ?_
  refine Rn.loop trivial (fun i : Nat => [(0, rowOf 1 iC 0 l), (3, I (i : Int))]) (fun _ => []) 0
    (fun i => i ≤ l.length ∧ ∀ j, j < i → farB (l.getD j 0) = false) (fun i => l.length - i) 0 ⟨Nat.zero_le _, fun j hj => absurd hj (by omega)⟩
    ⟨⟨rfl, rfl, rfl, rfl, rfl, .cons rfl (.refl rfl) (.cons rfl (.int _ _) .nil), rfl⟩, trivial, .nil⟩ ?_
  rintro i ⟨hi, hall⟩ ih
  refine Rn.ite 1000 rfl (fun h => ?_) (fun h => ?_)
  · have h : i < l.length := by simpa using h
    refine Rn.asr 1000 rfl (by simp [inB, h]) ?_
    refine Rn.call 1000 rfl _ (from_fun _ (-100000) 100000) ?_
    refine Rn.ite 1000 rfl (fun hp => ?_) (fun hp => ?_)
    · refine Rn.ret 1000 rfl rfl ?_
      have hp : (!!farB (l.getD i 0)) = true := hp
      rw [wildB_hit h (by simpa using hp)]
      rfl
    · have hp : (!!farB (l.getD i 0)) = false := hp
      refine Rn.stop 1000 rfl ?_
      refine Rn.weaken trivial ?_ (ih (i + 1) (by omega) ⟨h, fun j hj => ?_⟩)
      · exact ⟨⟨rfl, rfl, rfl, rfl, rfl, .cons rfl (.refl rfl) (.cons rfl (.eq rfl (congrArg I (w64_nat h hlen))) .nil), rfl⟩, trivial, .nil⟩
      · rcases Nat.lt_or_ge j i with hj' | hj'
        · exact hall j hj'
        · have : j = i := by omega
          subst this
          simpa using hp
  · have h : ¬ i < l.length := by simpa using h
    have : i = l.length := by omega
    subst this
    refine Rn.ret 1000 rfl rfl ?_
    rw [wildB_none hall]
    rfl

/-- A patch. -/
structure Pa where
  x0 : Int
  y0 : Int
  x1 : Int
  y1 : Int
abbrev paA (p : Pa) : AV := .agg [I p.x0, I p.y0, I p.x1, I p.y1]
def roughB (p : Pa) : Bool := wildB [p.x0, p.y0, p.x1, p.y1] || (decide (p.x0 > p.x1) || decide (p.y0 > p.y1))

theorem rough_fun (p : Pa) : Fun Tryz.prog 53 [paA p] (B (roughB p)) := by
  refine Fun.of_run cB rfl ?_
  refine Rn.call 1000 rfl _ (wild_fun [p.x0, p.y0, p.x1, p.y1] (by simp [small])) ?_
  refine Rn.ite 1000 rfl (fun h1 => ?_) (fun h1 => ?_)
  · exact Rn.ret 1000 rfl rfl (congrArg B (by unfold roughB; rw [h1]; rfl))
  · refine Rn.ite 1000 rfl (fun h2 => ?_) (fun h2 => ?_)
    · exact Rn.ret 1000 rfl rfl (congrArg B (by unfold roughB; rw [h1, h2]; rfl))
    · exact Rn.ret 1000 rfl rfl (congrArg B (by unfold roughB; rw [h1, h2]; rfl))
theorem patch_fun (p : Pa) : Fun Tryz.prog 58 [paA p] (B (!roughB p)) := by
  refine Fun.of_run cB rfl ?_
  refine Rn.call 1000 rfl _ (placed_fun [p.x0, p.y0, p.x1, p.y1] (by simp [small])) ?_
  refine Rn.ite 1000 rfl (fun h1 => ?_) (fun h1 => ?_)
  · refine Rn.ite 1000 rfl (fun h2 => ?_) (fun h2 => ?_)
    · refine Rn.ret 1000 rfl rfl ?_
      refine congrArg B ?_
      have h2 : p.x0 ≤ p.x1 := of_decide_eq_true h2
      have h1 : wildB [p.x0, p.y0, p.x1, p.y1] = false := by simpa using h1
      show decide (p.y0 ≤ p.y1) = _
      unfold roughB
      rw [h1]
      have h3 : ¬ p.x0 > p.x1 := by omega
      by_cases h4 : p.y0 ≤ p.y1
      · have : ¬ p.y0 > p.y1 := by omega
        simp [h4, h3, this]
      · have : p.y0 > p.y1 := by omega
        simp [h4, this]
    · refine Rn.ret 1000 rfl rfl ?_
      refine congrArg B ?_
      have h2 : ¬ p.x0 ≤ p.x1 := of_decide_eq_false h2
      unfold roughB
      have h3 : p.x0 > p.x1 := by omega
      simp [h3]
  · refine Rn.ret 1000 rfl rfl ?_
    refine congrArg B ?_
    have h1 : wildB [p.x0, p.y0, p.x1, p.y1] = true := by simpa using h1
    unfold roughB
    rw [h1]; rfl
abbrev cornersA (p : Pa) : AV := .agg [I p.x0, I p.y0, I p.x1, I p.y0, I p.x1, I p.y1, I p.x0, I p.y1]
theorem corners_fun (p : Pa) : Fun Tryz.prog 54 [paA p] (cornersA p) := Fun.of_run cB rfl (Rn.ret 1000 rfl rfl rfl)
theorem rcorners_fun (p : Pa) : Fun Tryz.prog 59 [paA p] (cornersA p) := Fun.of_run cB rfl (Rn.ret 1000 rfl rfl rfl)
end Go.Proofs.Am

/- What is wrong with a tree, a front, a column. -/
namespace Go.Proofs.Am
open Go
set_option maxRecDepth 100000

noncomputable abbrev fsC : List (Nat × Func) := [(65, Tryz.f65), (118, Tryz.f118), (67, Tryz.f67), (120, Tryz.f120), (69, Tryz.f69), (72, Tryz.f72), (73, Tryz.f73)]
theorem cC : CtxOK Tryz.prog (ctx [] fsC) := ctx_ok (show FsOK Tryz.prog fsC from ⟨Tryz.func65, Tryz.call65, Tryz.func118, Tryz.call118, Tryz.func67, Tryz.call67, Tryz.func120, Tryz.call120, Tryz.func69, Tryz.call69, Tryz.func72, Tryz.call72, Tryz.func73, Tryz.call73, trivial⟩) rfl

def treeW (t : Tr) : Bool := wildB [t.x, t.y] || (outB t.r 1 20000 || (outB t.low 0 (w64 (t.high - 1)) || outB t.high 1 1000))
def treeE (t : Tr) : Int := if treeW t then 7 else 0
theorem checkTree_fun (n sz : Nat) (get : Nat → List AV) (t : Tr) : Fun Tryz.prog 65 [.rsl n sz get, .agg (trC t)] (I (treeE t)) := by
  refine Fun.of_run cC rfl ?_
  refine Rn.call 1000 rfl _ (wild_fun [t.x, t.y] (by simp [small])) ?_
  repeat' (first
    | refine Rn.call 1000 rfl _ (out_fun _ _ _) ?_
    | refine Rn.ite 1000 rfl (fun _ => ?_) (fun _ => ?_))
  all_goals (refine Rn.ret 1000 rfl rfl ?_; refine congrArg I ?_; unfold treeE treeW; simp_all)

def winW (w : Wn) : Bool := outB w.til 1 1000 || (outB w.fro 0 (w64 (w.til - 1)) || (outB w.high 1 1000 || outB w.low 0 (w64 (w.high - 1))))
theorem badWin_fun (w : Wn) : Fun Tryz.prog 118 [.agg (wnC w)] (B (winW w)) := by
  refine Fun.of_run cC rfl ?_
  repeat' (first
    | refine Rn.call 1000 rfl _ (out_fun _ _ _) ?_
    | refine Rn.ite 1000 rfl (fun _ => ?_) (fun _ => ?_))
  all_goals (refine Rn.ret 1000 rfl rfl ?_; refine congrArg B ?_; unfold winW; simp_all)

def frontE (f : Ft) : Int := if wildB [f.ax, f.ay, f.bx, f.bY] then 7 else if f.ax == f.bx && f.ay == f.bY then 2 else if decide ((f.ws.length : Int) > 6) then 3 else if f.ws.any winW then 7 else 0
theorem checkFront_fun (n sz : Nat) (get : Nat → List AV) (f : Ft) (hf : f.ok) : Fun Tryz.prog 67 [.rsl n sz get, .agg (ftC f)] (I (frontE f)) := by
  refine Fun.of_run cC rfl ?_
  refine Rn.call 1000 rfl _ (wild_fun [f.ax, f.ay, f.bx, f.bY] (by simp [small])) ?_
  repeat' (first
    | refine Rn.call 1000 rfl _ (contains119x f.ws hf winW fun w _ => badWin_fun w) ?_
    | refine Rn.ite 1000 rfl (fun _ => ?_) (fun _ => ?_))
  all_goals (refine Rn.ret 1000 rfl rfl ?_; refine congrArg I ?_; unfold frontE; simp only [*, Bool.false_eq_true, if_true, if_false, ite_true, ite_false] <;> rfl)
end Go.Proofs.Am

/- The reference's checks of a front and a column. -/
namespace Go.Proofs.Am
open Go
set_option maxRecDepth 100000

def rwinW (w : Wn) : Bool := decide (w.fro < 0) || (decide (w.fro ≥ w.til) || (decide (w.til > 1000) || (decide (w.low < 0) || (decide (w.low ≥ w.high) || decide (w.high > 1000)))))
theorem rwin_eq (w : Wn) : rwinW w = winW w := by
  have h1 : ∀ z : Int, 1 ≤ z → z ≤ 1000 → w64 (z - 1) = z - 1 := fun z a b => by unfold w64; rw [IntKind.wrap_i64]; omega
  unfold rwinW winW outB
  by_cases a : 1 ≤ w.til ∧ w.til ≤ 1000
  · rw [h1 _ a.1 a.2]
    by_cases b : 1 ≤ w.high ∧ w.high ≤ 1000
    · rw [h1 _ b.1 b.2]
      rw [Bool.eq_iff_iff]; simp; omega
    · rw [Bool.eq_iff_iff]; simp; omega
  · rw [Bool.eq_iff_iff]; simp; omega

theorem any_hit {α : Type} {p : α → Bool} {l : List α} {d : α} {i : Nat} (h : i < l.length) (hp : p (l.getD i d) = true) : l.any p = true := by
  rw [List.any_eq_true]
  refine ⟨l.getD i d, ?_, hp⟩
  rw [List.getD_eq_getElem?_getD, List.getElem?_eq_getElem h]; exact List.getElem_mem h
theorem any_none {α : Type} {p : α → Bool} {l : List α} {d : α} (h : ∀ j, j < l.length → p (l.getD j d) = false) : l.any p = false := by
  rw [List.any_eq_false]
  intro x hx
  obtain ⟨j, hj, rfl⟩ := List.mem_iff_getElem.1 hx
  have := h j hj
  rw [List.getD_eq_getElem?_getD, List.getElem?_eq_getElem hj] at this
  simpa using this

theorem rfront_fun (f : Ft) (hf : f.ok) : Fun Tryz.prog 72 [.agg (ftC f)] (I (frontE f)) := by
  refine Fun.of_run cC rfl ?_
  refine Rn.call 1000 rfl _ (placed_fun [f.ax, f.ay, f.bx, f.bY] (by simp [small])) ?_
  refine Rn.ite 1000 rfl (fun h1 => ?_) (fun h1 => ?_)
  · have h1 : (!!wildB [f.ax, f.ay, f.bx, f.bY]) = true := h1
    rw [Bool.not_not] at h1
    exact Rn.ret 1000 rfl rfl (by unfold frontE; rw [h1]; rfl)
  have h1 : (!!wildB [f.ax, f.ay, f.bx, f.bY]) = false := h1
  rw [Bool.not_not] at h1
  refine Rn.ite 1000 rfl (fun h2 => ?_) (fun h2 => ?_)
  · exact Rn.ret 1000 rfl rfl (by unfold frontE; rw [h1, h2]; rfl)
  refine Rn.ite 1000 rfl (fun h3 => ?_) (fun h3 => ?_)
  · exact Rn.ret 1000 rfl rfl (by unfold frontE; rw [h1, h2, h3]; rfl)
  have hE : frontE f = if f.ws.any winW then 7 else 0 := by unfold frontE; rw [h1, h2, h3]; rfl
  refine Rn.stop 1000 rfl ?_
  refine Rn.loop trivial (fun i : Nat => [(1, .ptr 0 0), (3, I (i : Int))]) (fun _ => [(0, .flat (ftC f) 123)]) 2
    (fun i => i ≤ f.ws.length ∧ ∀ j, j < i → winW (f.ws.getD j default) = false) (fun i => f.ws.length - i) 0 ⟨Nat.zero_le _, fun j hj => absurd hj (by omega)⟩
    ⟨⟨rfl, rfl, rfl, rfl, rfl, .cons rfl (.refl rfl) (.cons rfl (.int _ _) .nil), rfl⟩, trivial, .cons rfl (.flat' rfl rfl) .nil⟩ ?_
  rintro i ⟨hi, hall⟩ ih
  refine Rn.ite 1000 rfl (fun h => ?_) (fun h => ?_)
  · have h : i < f.ws.length := by simpa using h
    refine Rn.asr 1000 rfl (by simp [inB, h]) ?_
    have hit : rwinW (f.ws.getD i default) = true → (AV.v (.int .i64 7) : AV) = I (frontE f) := fun hw => by
      rw [hE, any_hit h (by rw [← rwin_eq]; exact hw)]
      rfl
    have inv : rwinW (f.ws.getD i default) = false → (i + 1 ≤ f.ws.length ∧ ∀ j, j < i + 1 → winW (f.ws.getD j default) = false) := fun hw => ⟨h, fun j hj => by
        rcases Nat.lt_or_ge j i with hj' | hj'
        · exact hall j hj'
        · have : j = i := by omega
          subst this
          rw [← rwin_eq]; exact hw⟩
    have tr : ∀ b1 b2 b3 b4 b5 b6 : Bool, rwinW (f.ws.getD i default) = (b1 || (b2 || (b3 || (b4 || (b5 || b6))))) → b1 = true ∨ b2 = true ∨ b3 = true ∨ b4 = true ∨ b5 = true ∨ b6 = true → rwinW (f.ws.getD i default) = true := fun b1 b2 b3 b4 b5 b6 e hh => by
      rw [e]; rcases hh with rfl | rfl | rfl | rfl | rfl | rfl <;> simp
    have fl : ∀ b1 b2 b3 b4 b5 b6 : Bool, rwinW (f.ws.getD i default) = (b1 || (b2 || (b3 || (b4 || (b5 || b6))))) → b1 = false → b2 = false → b3 = false → b4 = false → b5 = false → b6 = false → rwinW (f.ws.getD i default) = false := fun b1 b2 b3 b4 b5 b6 e => by
      rintro rfl rfl rfl rfl rfl rfl; rw [e]; rfl
    refine Rn.ite 1000 rfl (fun g1 => ?_) (fun g1 => ?_)
    · exact Rn.ret 1000 rfl rfl (hit (tr _ _ _ _ _ _ rfl (.inl g1)))
    refine Rn.ite 1000 rfl (fun g2 => ?_) (fun g2 => ?_)
    · exact Rn.ret 1000 rfl rfl (hit (tr _ _ _ _ _ _ rfl (.inr (.inl g2))))
    refine Rn.ite 1000 rfl (fun g3 => ?_) (fun g3 => ?_)
    · exact Rn.ret 1000 rfl rfl (hit (tr _ _ _ _ _ _ rfl (.inr (.inr (.inl g3)))))
    refine Rn.ite 1000 rfl (fun g4 => ?_) (fun g4 => ?_)
    · exact Rn.ret 1000 rfl rfl (hit (tr _ _ _ _ _ _ rfl (.inr (.inr (.inr (.inl g4))))))
    refine Rn.ite 1000 rfl (fun g5 => ?_) (fun g5 => ?_)
    · exact Rn.ret 1000 rfl rfl (hit (tr _ _ _ _ _ _ rfl (.inr (.inr (.inr (.inr (.inl g5)))))))
    refine Rn.ite 1000 rfl (fun g6 => ?_) (fun g6 => ?_)
    · exact Rn.ret 1000 rfl rfl (hit (tr _ _ _ _ _ _ rfl (.inr (.inr (.inr (.inr (.inr g6)))))))
    refine Rn.stop 1000 rfl ?_
    refine Rn.weaken trivial ?_ (ih (i + 1) (by omega) (inv (fl _ _ _ _ _ _ rfl g1 g2 g3 g4 g5 g6)))
    exact ⟨⟨rfl, rfl, rfl, rfl, rfl, .cons rfl (.refl rfl) (.cons rfl (.eq rfl (congrArg I (w64_nat h hf))) .nil), rfl⟩, trivial, .cons rfl (.flat' rfl rfl) .nil⟩
  · have h : ¬ i < f.ws.length := by simpa using h
    have : i = f.ws.length := by omega
    subst this
    refine Rn.ret 1000 rfl rfl ?_
    rw [hE, any_none hall]
    rfl
end Go.Proofs.Am

/- What is wrong with a column. -/
namespace Go.Proofs.Am
open Go
set_option maxRecDepth 100000

def sameC (c d : Cl) : Bool := decide (d.name = c.name)
theorem sameCol_fun (c d : Cl) : Fun Tryz.prog 120 [.agg (clC d), .pat (clC c) 0] (B (sameC c d)) := by
  refine Fun.of_run cC rfl ?_
  refine Rn.ret 1000 rfl rfl ?_
  exact congrArg B (strEq d.name c.name)

def colW (c : Cl) : Bool := wildB [c.x, c.y] || (outB c.h 1 200 || (outB c.dx (-1000) 1000 || outB c.dy (-1000) 1000))
def colE (before : List Cl) (c : Cl) : Int := if !nameB c.name then 6 else if before.any (sameC c) then 5 else if colW c then 7 else if c.dx == 0 && c.dy == 0 then 2 else 0

theorem checkColumn_fun (l : List Cl) (hl : small l.length) (c : Cl) (hc : c.ok) : Fun Tryz.prog 69 [clsA l, .agg (clC c)] (I (colE l c)) := by
  refine Fun.of_run cC rfl ?_
  refine Rn.call 1000 rfl _ (named_fun c.name hc) ?_
  refine Rn.ite 1000 rfl (fun h1 => ?_) (fun h1 => ?_)
  · exact Rn.ret 1000 rfl rfl (by unfold colE; rw [h1]; rfl)
  refine Rn.call 1000 rfl _ (contains121cx (clC c) l hl (sameC c) fun d _ => sameCol_fun c d) ?_
  refine Rn.ite 1000 rfl (fun h2 => ?_) (fun h2 => ?_)
  · exact Rn.ret 1000 rfl rfl (by unfold colE; rw [h1, h2]; rfl)
  refine Rn.call 1000 rfl _ (wild_fun [c.x, c.y] (by simp [small])) ?_
  repeat' (first
    | refine Rn.call 1000 rfl _ (out_fun _ _ _) ?_
    | refine Rn.ite 1000 rfl (fun _ => ?_) (fun _ => ?_))
  all_goals (refine Rn.ret 1000 rfl rfl ?_; refine congrArg I ?_; unfold colE colW; simp only [*, Bool.false_eq_true, if_true, if_false, ite_true, ite_false, Bool.or_true, Bool.true_or, Bool.or_false, Bool.false_or, Bool.and_true, Bool.and_false, Bool.true_and, Bool.false_and] <;> rfl)
end Go.Proofs.Am

/- The reference's check of a column. -/
namespace Go.Proofs.Am
open Go
set_option maxRecDepth 100000

theorem getD_mem {α : Type} {l : List α} {d : α} {i : Nat} (h : i < l.length) : l.getD i d ∈ l := by
  rw [List.getD_eq_getElem?_getD, List.getElem?_eq_getElem h]; exact List.getElem_mem h
theorem take_getD {α : Type} {l : List α} {d : α} {i j : Nat} (h : j < i) : (l.take i).getD j d = l.getD j d := by
  rw [List.getD_eq_getElem?_getD, List.getD_eq_getElem?_getD, List.getElem?_take, if_pos h]
theorem take_any {α : Type} {p : α → Bool} {l : List α} {d : α} {i k : Nat} (hi : i ≤ l.length) (hk : k < i) (hp : p (l.getD k d) = true) : (l.take i).any p = true :=
  any_hit (d := d) (i := k) (by rw [List.length_take]; omega) (by rw [take_getD hk]; exact hp)
theorem take_none {α : Type} {p : α → Bool} {l : List α} {d : α} {i : Nat} (hi : i ≤ l.length) (h : ∀ j, j < i → p (l.getD j d) = false) : (l.take i).any p = false :=
  any_none (d := d) fun j hj => by
    rw [List.length_take] at hj
    rw [take_getD (by omega)]; exact h j (by omega)

theorem rcolumn_fun (s : Sc) (hs : s.ok) (i : Nat) (hi : i < s.cols.length) : Fun Tryz.prog 73 [scA s, I (i : Int)] (I (colE (s.cols.take i) (s.cols.getD i default))) := by
  obtain ⟨_, _, _, hcl, _, _, hc⟩ := hs
  have hcl : s.cols.length ≤ 9223372036854775807 := hcl
  generalize hce : s.cols.getD i default = c
  have hcok : c.ok := hce ▸ hc _ (getD_mem hi)
  refine Fun.of_run cC rfl ?_
  refine Rn.asr 1000 rfl (by simp [inB, hi]) ?_
  refine Rn.call 1000 rfl _ (rname_fun _ (hc _ (getD_mem hi))) ?_
  refine Rn.ite 1000 rfl (fun h1 => ?_) (fun h1 => ?_)
  · have h1 : (!nameB (s.cols.getD i default).name) = true := h1
    rw [hce] at h1
    exact Rn.ret 1000 rfl rfl (by unfold colE; rw [h1]; rfl)
  have g1 : (!nameB (s.cols.getD i default).name) = false := h1
  rw [hce] at g1
  clear h1
  refine Rn.stop 1000 rfl ?_
  refine Rn.loop trivial (fun k : Nat => [(1, I (i : Int)), (2, .ptr 0 0), (5, .ptr 1 0), (6, I (k : Int))]) (fun _ => [(0, .flat [rdsA s.roads, trsA s.trees, ftsA s.fronts, clsA s.cols] 27), (1, .flat (clC (s.cols.getD i default)) 100)]) 3
    (fun k => k ≤ i ∧ ∀ j, j < k → sameC c (s.cols.getD j default) = false) (fun k => i - k) 0 ⟨Nat.zero_le _, fun j hj => absurd hj (by omega)⟩
    ⟨⟨rfl, rfl, rfl, rfl, rfl, .cons rfl (.refl rfl) (.cons rfl (.refl rfl) (.cons rfl (.refl rfl) (.cons rfl (.int _ _) .nil))), rfl⟩, trivial, .cons rfl (.flat' rfl rfl) (.cons rfl (.flat' rfl rfl) .nil)⟩ ?_
  rintro k ⟨hk, hall⟩ ih
  refine Rn.ite 1000 rfl (fun h => ?_) (fun h => ?_)
  · have h : k < i := by simpa using h
    refine Rn.asr 1000 rfl (by simp [inB]; omega) ?_
    refine Rn.chk 1000 rfl (by kernel_rfl) ?_
    refine Rn.ite 1000 rfl (fun h2 => ?_) (fun h2 => ?_)
    · have h2 : ((ByteArray.mk ⟨(s.cols.getD k default).name⟩).toList == (ByteArray.mk ⟨(s.cols.getD i default).name⟩).toList) = true := h2
      rw [strEq, hce] at h2
      exact Rn.ret 1000 rfl rfl (by unfold colE; rw [g1, take_any (d := default) (Nat.le_of_lt hi) h (show sameC c _ = true from h2)]; rfl)
    · have h2 : ((ByteArray.mk ⟨(s.cols.getD k default).name⟩).toList == (ByteArray.mk ⟨(s.cols.getD i default).name⟩).toList) = false := h2
      rw [strEq, hce] at h2
      refine Rn.stop 1000 rfl ?_
      refine Rn.weaken trivial ?_ (ih (k + 1) (by omega) ⟨h, fun j hj => ?_⟩)
      · exact ⟨⟨rfl, rfl, rfl, rfl, rfl, .cons rfl (.refl rfl) (.cons rfl (.refl rfl) (.cons rfl (.refl rfl) (.cons rfl (.eq rfl (congrArg I (w64_nat h (by omega)))) .nil))), rfl⟩, trivial, .cons rfl (.flat' rfl rfl) (.cons rfl (.flat' rfl rfl) .nil)⟩
      · rcases Nat.lt_or_ge j k with hj' | hj'
        · exact hall j hj'
        · have : j = k := by omega
          subst this
          exact h2
  · have h : ¬ k < i := by simpa using h
    have : k = i := by omega
    subst this
    have hno : (s.cols.take k).any (sameC c) = false := take_none (d := default) (Nat.le_of_lt hi) hall
    have hE : colE (s.cols.take k) c = if colW c then 7 else if c.dx == 0 && c.dy == 0 then 2 else 0 := by unfold colE; rw [g1, hno]; rfl
    rw [hE]
    rw [hce]
    refine Rn.call 1000 rfl _ (placed_fun [c.x, c.y] (by simp [small])) ?_
    repeat' (first
      | refine Rn.call 1000 rfl _ (from_fun _ _ _) ?_
      | refine Rn.ite 1000 rfl (fun _ => ?_) (fun _ => ?_))
    all_goals (refine Rn.ret 1000 rfl rfl ?_; refine congrArg I ?_; unfold colW; simp only [Bool.not_not] at *; simp only [*, Bool.false_eq_true, if_true, if_false, ite_true, ite_false, Bool.or_true, Bool.true_or, Bool.or_false, Bool.false_or, Bool.and_true, Bool.and_false, Bool.true_and, Bool.false_and] <;> rfl)
end Go.Proofs.Am

/- MADE BY gen_idx3.py: slices.IndexFunc and slices.ContainsFunc of the element types. -/
namespace Go.Proofs.Am
open Go
set_option maxRecDepth 100000

noncomputable abbrev fsJ46 : List (Nat × Func) := [(46, Tryz.f46)]
theorem cJ46 : CtxOK Tryz.prog (ctx [] fsJ46) := ctx_ok (show FsOK Tryz.prog fsJ46 from ⟨Tryz.func46, Tryz.call46, trivial⟩) rfl
theorem index46c4x {f : FuncId} (cs0 cs1 cs2 cs3 : List AV) (l : List Tr) (hlen : small l.length) (p : Tr → Bool) (hf : ∀ x ∈ l, Fun Tryz.prog f [(.agg (trC x)), .pat cs0 0, .pat cs1 0, .pat cs2 0, .pat cs3 0] (B (p x))) :
    Fun Tryz.prog 46 [rowOf 5 trC default l, .fn (.func f) [.pat cs0 0, .pat cs1 0, .pat cs2 0, .pat cs3 0]] (I (idx p l)) := by
  refine Fun.of_run cJ46 rfl ?_
  refine Rn.stop 1000 rfl ?_
  refine Rn.loop trivial (fun i : Nat => [(0, rowOf 5 trC default l), (1, .fn (.func f) [.pat cs0 0, .pat cs1 0, .pat cs2 0, .pat cs3 0]), (7, I l.length), (8, I (i : Int))]) (fun _ => []) 0
    (fun i => i ≤ l.length ∧ ∀ j, j < i → p (l.getD j default) = false) (fun i => l.length - i) 0 ⟨Nat.zero_le _, fun j hj => absurd hj (by omega)⟩
    ⟨⟨rfl, rfl, rfl, rfl, rfl, .cons rfl (.refl rfl) (.cons rfl (.refl rfl) (.cons rfl (.refl rfl) (.cons rfl (.int _ _) .nil))), rfl⟩, trivial, .nil⟩ ?_
  rintro i ⟨hi, hall⟩ ih
  refine Rn.ite 1000 rfl (fun h => ?_) (fun h => ?_)
  · have h : i < l.length := by simpa using h
    have hmem : l.getD i default ∈ l := by
      rw [List.getD_eq_getElem?_getD, List.getElem?_eq_getElem h]; exact List.getElem_mem h
    refine Rn.asr 1000 rfl (by simp [inB, h]) ?_
    refine Rn.call 1000 rfl _ (hf _ hmem) ?_
    refine Rn.ite 1000 rfl (fun hp => ?_) (fun hp => ?_)
    · refine Rn.ret 1000 rfl rfl ?_
      exact congrArg I (idx_hit h hall hp).symm
    · refine Rn.stop 1000 rfl ?_
      refine Rn.weaken trivial ?_ (ih (i + 1) (by omega) ⟨h, fun j hj => ?_⟩)
      · exact ⟨⟨rfl, rfl, rfl, rfl, rfl, .cons rfl (.refl rfl) (.cons rfl (.refl rfl) (.cons rfl (.refl rfl) (.cons rfl (.eq rfl (congrArg I (w64_nat h hlen))) .nil))), rfl⟩, trivial, .nil⟩
      · rcases Nat.lt_or_ge j i with hj' | hj'
        · exact hall j hj'
        · have : j = i := by omega
          subst this
          exact hp
  · have h : ¬ i < l.length := by simpa using h
    have : i = l.length := by omega
    subst this
    exact Rn.ret 1000 rfl rfl (congrArg I (idx_none hall).symm)
noncomputable abbrev fsJ108 : List (Nat × Func) := [(108, Tryz.f108), (55, Tryz.f55)]
theorem cJ108 : CtxOK Tryz.prog (ctx [] fsJ108) := ctx_ok (show FsOK Tryz.prog fsJ108 from ⟨Tryz.func108, Tryz.call108, Tryz.func55, Tryz.call55, trivial⟩) rfl
theorem index108x {f : FuncId} (l : List (Int × Int)) (hlen : small l.length) (p : (Int × Int) → Bool) (hf : ∀ x ∈ l, Fun Tryz.prog f [(.agg (ptC x))] (B (p x))) :
    Fun Tryz.prog 108 [rowOf 2 ptC (0, 0) l, .fn (.func f) []] (I (idx p l)) := by
  refine Fun.of_run cJ108 rfl ?_
  refine Rn.stop 1000 rfl ?_
  refine Rn.loop trivial (fun i : Nat => [(0, rowOf 2 ptC (0, 0) l), (1, .fn (.func f) []), (7, I l.length), (8, I (i : Int))]) (fun _ => []) 0
    (fun i => i ≤ l.length ∧ ∀ j, j < i → p (l.getD j (0, 0)) = false) (fun i => l.length - i) 0 ⟨Nat.zero_le _, fun j hj => absurd hj (by omega)⟩
    ⟨⟨rfl, rfl, rfl, rfl, rfl, .cons rfl (.refl rfl) (.cons rfl (.refl rfl) (.cons rfl (.refl rfl) (.cons rfl (.int _ _) .nil))), rfl⟩, trivial, .nil⟩ ?_
  rintro i ⟨hi, hall⟩ ih
  refine Rn.ite 1000 rfl (fun h => ?_) (fun h => ?_)
  · have h : i < l.length := by simpa using h
    have hmem : l.getD i (0, 0) ∈ l := by
      rw [List.getD_eq_getElem?_getD, List.getElem?_eq_getElem h]; exact List.getElem_mem h
    refine Rn.asr 1000 rfl (by simp [inB, h]) ?_
    refine Rn.call 1000 rfl _ (hf _ hmem) ?_
    refine Rn.ite 1000 rfl (fun hp => ?_) (fun hp => ?_)
    · refine Rn.ret 1000 rfl rfl ?_
      exact congrArg I (idx_hit h hall hp).symm
    · refine Rn.stop 1000 rfl ?_
      refine Rn.weaken trivial ?_ (ih (i + 1) (by omega) ⟨h, fun j hj => ?_⟩)
      · exact ⟨⟨rfl, rfl, rfl, rfl, rfl, .cons rfl (.refl rfl) (.cons rfl (.refl rfl) (.cons rfl (.refl rfl) (.cons rfl (.eq rfl (congrArg I (w64_nat h hlen))) .nil))), rfl⟩, trivial, .nil⟩
      · rcases Nat.lt_or_ge j i with hj' | hj'
        · exact hall j hj'
        · have : j = i := by omega
          subst this
          exact hp
  · have h : ¬ i < l.length := by simpa using h
    have : i = l.length := by omega
    subst this
    exact Rn.ret 1000 rfl rfl (congrArg I (idx_none hall).symm)
theorem contains55x {f : FuncId} (l : List (Int × Int)) (hlen : small l.length) (p : (Int × Int) → Bool) (hf : ∀ x ∈ l, Fun Tryz.prog f [(.agg (ptC x))] (B (p x))) :
    Fun Tryz.prog 55 [rowOf 2 ptC (0, 0) l, .fn (.func f) []] (B (l.any p)) := by
  refine Fun.of_run cJ108 rfl ?_
  refine Rn.call 1000 rfl _ (index108x l hlen p hf) ?_
  refine Rn.ret 1000 rfl rfl ?_
  refine congrArg B ?_
  show decide (idx p l ≥ 0) = _
  exact idx_any p l
theorem index108c1x {f : FuncId} (cs0 : List AV) (l : List (Int × Int)) (hlen : small l.length) (p : (Int × Int) → Bool) (hf : ∀ x ∈ l, Fun Tryz.prog f [(.agg (ptC x)), .pat cs0 0] (B (p x))) :
    Fun Tryz.prog 108 [rowOf 2 ptC (0, 0) l, .fn (.func f) [.pat cs0 0]] (I (idx p l)) := by
  refine Fun.of_run cJ108 rfl ?_
  refine Rn.stop 1000 rfl ?_
  refine Rn.loop trivial (fun i : Nat => [(0, rowOf 2 ptC (0, 0) l), (1, .fn (.func f) [.pat cs0 0]), (7, I l.length), (8, I (i : Int))]) (fun _ => []) 0
    (fun i => i ≤ l.length ∧ ∀ j, j < i → p (l.getD j (0, 0)) = false) (fun i => l.length - i) 0 ⟨Nat.zero_le _, fun j hj => absurd hj (by omega)⟩
    ⟨⟨rfl, rfl, rfl, rfl, rfl, .cons rfl (.refl rfl) (.cons rfl (.refl rfl) (.cons rfl (.refl rfl) (.cons rfl (.int _ _) .nil))), rfl⟩, trivial, .nil⟩ ?_
  rintro i ⟨hi, hall⟩ ih
  refine Rn.ite 1000 rfl (fun h => ?_) (fun h => ?_)
  · have h : i < l.length := by simpa using h
    have hmem : l.getD i (0, 0) ∈ l := by
      rw [List.getD_eq_getElem?_getD, List.getElem?_eq_getElem h]; exact List.getElem_mem h
    refine Rn.asr 1000 rfl (by simp [inB, h]) ?_
    refine Rn.call 1000 rfl _ (hf _ hmem) ?_
    refine Rn.ite 1000 rfl (fun hp => ?_) (fun hp => ?_)
    · refine Rn.ret 1000 rfl rfl ?_
      exact congrArg I (idx_hit h hall hp).symm
    · refine Rn.stop 1000 rfl ?_
      refine Rn.weaken trivial ?_ (ih (i + 1) (by omega) ⟨h, fun j hj => ?_⟩)
      · exact ⟨⟨rfl, rfl, rfl, rfl, rfl, .cons rfl (.refl rfl) (.cons rfl (.refl rfl) (.cons rfl (.refl rfl) (.cons rfl (.eq rfl (congrArg I (w64_nat h hlen))) .nil))), rfl⟩, trivial, .nil⟩
      · rcases Nat.lt_or_ge j i with hj' | hj'
        · exact hall j hj'
        · have : j = i := by omega
          subst this
          exact hp
  · have h : ¬ i < l.length := by simpa using h
    have : i = l.length := by omega
    subst this
    exact Rn.ret 1000 rfl rfl (congrArg I (idx_none hall).symm)
theorem contains55c1x {f : FuncId} (cs0 : List AV) (l : List (Int × Int)) (hlen : small l.length) (p : (Int × Int) → Bool) (hf : ∀ x ∈ l, Fun Tryz.prog f [(.agg (ptC x)), .pat cs0 0] (B (p x))) :
    Fun Tryz.prog 55 [rowOf 2 ptC (0, 0) l, .fn (.func f) [.pat cs0 0]] (B (l.any p)) := by
  refine Fun.of_run cJ108 rfl ?_
  refine Rn.call 1000 rfl _ (index108c1x cs0 l hlen p hf) ?_
  refine Rn.ret 1000 rfl rfl ?_
  refine congrArg B ?_
  show decide (idx p l ≥ 0) = _
  exact idx_any p l
end Go.Proofs.Am
