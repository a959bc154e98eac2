/- Part of the proofs about the layer of roads: Geometry of the plane over the rational numbers: how near points are to straight lines, convex hulls; no program here. The two chains of a convex hull, over whole numbers; no program here. The closed way round a convex hull; no program here. How near: by whole numbers, and by points of a straight line. Touching a convex hull: by the hull's edges, by pairs and triples of points, and by points between points. The hull of points: sorted, without repetitions, both chains; that it is touched as its points are. Shadows: the places on the ways from a lamp to the points of a patch; no program here. Strips and patches: when a strip has a point of a patch; no program here. A strip's piece goes through a patch: by its box and the sides of the corners; by the diagonals. No program here. -/
set_option linter.unusedVariables false
set_option linter.unusedSimpArgs false

/- Geometry of the plane over the rational numbers: how near points are to straight lines, convex hulls; no program here. -/
namespace Go.Proofs.Geo

theorem mulnn {a b : Rat} (ha : 0 ≤ a) (hb : 0 ≤ b) : 0 ≤ a * b := Rat.mul_nonneg ha hb
theorem sqnn (a : Rat) : 0 ≤ a * a := by
  rcases Rat.le_total (a := 0) (b := a) with h | h
  · exact mulnn h h
  · have : 0 ≤ (-a) * (-a) := mulnn (by grind) (by grind)
    grind
theorem div_ex {n d : Rat} (h : d ≠ 0) : ∃ t : Rat, t * d = n := ⟨n / d, by grind⟩
theorem pos_of_mul {t d : Rat} (hd : 0 < d) (h : 0 ≤ t * d) : 0 ≤ t := by
  rcases Rat.le_total (a := 0) (b := t) with h' | h'
  · exact h'
  · by_cases e : t = 0
    · grind
    · have h1 : t < 0 := by grind
      have : 0 < (-t) * d := Rat.mul_pos (by grind) hd
      grind
theorem le_of_mul {s t d : Rat} (hd : 0 < d) (h : s * d ≤ t * d) : s ≤ t := by
  have := pos_of_mul (t := t - s) hd (by grind)
  grind

theorem lerp_dec {a b t : Rat} (ha : 0 ≤ a) (ht : 0 ≤ t) (h : a + t * (b - a) < 0) : 0 < a - b := by
  by_cases h' : a ≤ b
  · have := mulnn ht (show 0 ≤ b - a by grind)
    grind
  · grind

/-- Leaving a convex set on a straight way: numbers that are not below 0 at the beginning, one of which is not above 0 at the end. -/
theorem exit_list : ∀ (fs : List (Rat × Rat)), (∀ f ∈ fs, 0 ≤ f.1) → (∃ f ∈ fs, f.2 ≤ 0) →
    ∃ t : Rat, 0 ≤ t ∧ t ≤ 1 ∧ (∀ f ∈ fs, 0 ≤ f.1 + t * (f.2 - f.1)) ∧ ∃ f ∈ fs, f.1 + t * (f.2 - f.1) = 0
  | [], _, h => by obtain ⟨f, hf, _⟩ := h; cases hf
  | f :: fs, h0, h1 => by
    have hf0 : 0 ≤ f.1 := h0 f (List.mem_cons_self ..)
    by_cases hr : ∃ g ∈ fs, g.2 ≤ 0
    · obtain ⟨t, ht0, ht1, hall, g, hg, hg0⟩ := exit_list fs (fun g hg => h0 g (List.mem_cons_of_mem _ hg)) hr
      by_cases hf : 0 ≤ f.1 + t * (f.2 - f.1)
      · refine ⟨t, ht0, ht1, fun x hx => ?_, g, List.mem_cons_of_mem _ hg, hg0⟩
        rcases List.mem_cons.1 hx with rfl | hx
        · exact hf
        · exact hall x hx
      · have hf : f.1 + t * (f.2 - f.1) < 0 := by grind
        have hd : 0 < f.1 - f.2 := lerp_dec hf0 ht0 hf
        obtain ⟨s, hs⟩ := div_ex (n := f.1) (d := f.1 - f.2) (by grind)
        have hs0 : 0 ≤ s := pos_of_mul hd (by grind)
        have hst : s ≤ t := le_of_mul hd (by grind)
        refine ⟨s, hs0, by grind, fun x hx => ?_, f, List.mem_cons_self .., by grind⟩
        rcases List.mem_cons.1 hx with rfl | hx
        · grind
        · have h2 := hall x hx
          have h3 := h0 x (List.mem_cons_of_mem _ hx)
          rcases Rat.le_total (a := x.1) (b := x.2) with h | h
          · have := mulnn hs0 (show 0 ≤ x.2 - x.1 by grind)
            grind
          · have := mulnn (show 0 ≤ t - s by grind) (show 0 ≤ x.1 - x.2 by grind)
            grind
    · have hf : f.2 ≤ 0 := by
        obtain ⟨g, hg, hg2⟩ := h1
        rcases List.mem_cons.1 hg with rfl | hg
        · exact hg2
        · exact absurd ⟨g, hg, hg2⟩ hr
      have hpos : ∀ g ∈ fs, 0 < g.2 := fun g hg => by
        by_cases h : 0 < g.2
        · exact h
        · exact absurd ⟨g, hg, by grind⟩ hr
      have conv : ∀ t : Rat, 0 ≤ t → t ≤ 1 → ∀ g ∈ fs, 0 ≤ g.1 + t * (g.2 - g.1) := fun t ht0 ht1 g hg => by
        have h2 := mulnn ht0 (show 0 ≤ g.2 by have := hpos g hg; grind)
        have h3 := mulnn (show 0 ≤ 1 - t by grind) (h0 g (List.mem_cons_of_mem _ hg))
        grind
      by_cases e : f.1 = f.2
      · refine ⟨0, by grind, by grind, fun x hx => ?_, f, List.mem_cons_self .., by grind⟩
        rcases List.mem_cons.1 hx with rfl | hx
        · grind
        · exact conv 0 (by grind) (by grind) x hx
      · have hd : 0 < f.1 - f.2 := by grind
        obtain ⟨s, hs⟩ := div_ex (n := f.1) (d := f.1 - f.2) (by grind)
        have hs0 : 0 ≤ s := pos_of_mul hd (by grind)
        have hs1 : s ≤ 1 := le_of_mul hd (by grind)
        refine ⟨s, hs0, hs1, fun x hx => ?_, f, List.mem_cons_self .., by grind⟩
        rcases List.mem_cons.1 hx with rfl | hx
        · grind
        · exact conv s hs0 hs1 x hx

/-- A point of the plane. -/
structure Pt where
  x : Rat
  y : Rat

/-- On which side of the line from a to b is p: above 0 on the left. -/
def side (a b p : Pt) : Rat := (b.x - a.x) * (p.y - a.y) - (b.y - a.y) * (p.x - a.x)
/-- The square of the distance. -/
def dst (a b : Pt) : Rat := (a.x - b.x) * (a.x - b.x) + (a.y - b.y) * (a.y - b.y)
/-- The point at t of the way. -/
def on (a b : Pt) (t : Rat) : Pt := ⟨a.x + t * (b.x - a.x), a.y + t * (b.y - a.y)⟩
/-- Is p no farther than the root of q from the straight line between a and b? -/
def Near (a b p : Pt) (q : Rat) : Prop := ∃ t : Rat, 0 ≤ t ∧ t ≤ 1 ∧ dst (on a b t) p ≤ q

theorem dst_nn (a b : Pt) : 0 ≤ dst a b := by
  have h1 := sqnn (a.x - b.x)
  have h2 := sqnn (a.y - b.y)
  unfold dst; grind
theorem side_on (a b p q : Pt) (t : Rat) : side a b (on p q t) = side a b p + t * (side a b q - side a b p) := by unfold side on; grind
theorem side_ends (a b : Pt) (t : Rat) : side a b (on a b t) = 0 := by unfold side on; grind
theorem near_swap {a b p : Pt} {q : Rat} (h : Near a b p q) : Near b a p q := by
  obtain ⟨t, h0, h1, h2⟩ := h
  refine ⟨1 - t, by grind, by grind, ?_⟩
  have : on b a (1 - t) = on a b t := by unfold on; grind
  rw [this]; exact h2
theorem dst_on (x m : Pt) (t : Rat) : dst (on x m t) m = (1 - t) * (1 - t) * dst x m := by unfold dst on; grind
theorem dst_shrink {x m : Pt} {t q : Rat} (h0 : 0 ≤ t) (h1 : t ≤ 1) (h : dst x m ≤ q) : dst (on x m t) m ≤ q := by
  rw [dst_on]
  have h2 := dst_nn x m
  have h3 : (1 - t) * (1 - t) ≤ 1 := by
    have := mulnn h0 (show 0 ≤ 1 - t by grind)
    grind
  have := mulnn (show 0 ≤ 1 - (1 - t) * (1 - t) by grind) h2
  grind

/-- A convex polygon by its edges. -/
structure Poly (E : List (Pt × Pt)) : Prop where
  next : ∀ e ∈ E, ∃ c, (e.2, c) ∈ E ∧ 0 < side e.1 e.2 c
  prev : ∀ e ∈ E, ∃ z, (z, e.1) ∈ E ∧ 0 < side z e.1 e.2

/-- A point on the line of an edge that is on no edge's right is on the edge. -/
theorem Poly.on_edge {E : List (Pt × Pt)} (hE : Poly E) {e : Pt × Pt} (he : e ∈ E) {q : Pt} (h : ∀ e ∈ E, 0 ≤ side e.1 e.2 q) (hq : side e.1 e.2 q = 0) : ∃ t : Rat, 0 ≤ t ∧ t ≤ 1 ∧ q = on e.1 e.2 t := by
  obtain ⟨c, hc, hc0⟩ := hE.next e he
  obtain ⟨z, hz, hz0⟩ := hE.prev e he
  obtain ⟨a, b⟩ := e
  simp only at *
  have h1 := h _ hc
  have h2 := h _ hz
  simp only at h1 h2
  -- q = a + t (b - a)
  have hne : ¬ (b.x = a.x ∧ b.y = a.y) := fun ⟨e1, e2⟩ => by unfold side at hc0; grind
  have key : ∃ t : Rat, q = on a b t := by
    by_cases hx : b.x = a.x
    · have hy : b.y - a.y ≠ 0 := by grind
      obtain ⟨t, ht⟩ := div_ex (n := q.y - a.y) hy
      refine ⟨t, ?_⟩
      have : q.x = a.x := by unfold side at hq; grind
      cases q; unfold on; simp only [Pt.mk.injEq]; simp only at *; grind
    · have hy : b.x - a.x ≠ 0 := by grind
      obtain ⟨t, ht⟩ := div_ex (n := q.x - a.x) hy
      refine ⟨t, ?_⟩
      have : q.y = a.y + t * (b.y - a.y) := by unfold side at hq; grind
      cases q; unfold on; simp only [Pt.mk.injEq]; simp only at *; grind
  obtain ⟨t, rfl⟩ := key
  refine ⟨t, ?_, ?_, rfl⟩
  · -- prev: side z a (on a b t) = t * side z a b
    have : side z a (on a b t) = t * side z a b := by unfold side on; grind
    rw [this] at h2
    exact pos_of_mul hz0 h2
  · have : side b c (on a b t) = (1 - t) * side a b c := by unfold side on; grind
    rw [this] at h1
    have := pos_of_mul hc0 h1
    grind

/-- From a point of a polygon to one that is not inside of it: an edge is at least as near. -/
theorem Poly.exit {E : List (Pt × Pt)} (hE : Poly E) {x m : Pt} {q : Rat} (hx : ∀ e ∈ E, 0 ≤ side e.1 e.2 x) (hm : ∃ e ∈ E, side e.1 e.2 m ≤ 0) (hd : dst x m ≤ q) : ∃ e ∈ E, Near e.1 e.2 m q := by
  obtain ⟨t, h0, h1, hall, f, hf, hf0⟩ := exit_list (E.map fun e => (side e.1 e.2 x, side e.1 e.2 m))
    (fun f hf => by obtain ⟨e, he, rfl⟩ := List.mem_map.1 hf; exact hx e he)
    (by obtain ⟨e, he, h⟩ := hm; exact ⟨_, List.mem_map.2 ⟨e, he, rfl⟩, h⟩)
  obtain ⟨e, he, rfl⟩ := List.mem_map.1 hf
  have hq0 : side e.1 e.2 (on x m t) = 0 := by rw [side_on]; exact hf0
  obtain ⟨s, hs0, hs1, hs⟩ := hE.on_edge he (q := on x m t) (fun g hg => by
    rw [side_on]
    exact hall _ (List.mem_map.2 ⟨g, hg, rfl⟩)) hq0
  exact ⟨e, he, s, hs0, hs1, by rw [← hs]; exact dst_shrink h0 h1 hd⟩
end Go.Proofs.Geo

/- The two chains of a convex hull, over whole numbers; no program here. -/
namespace Go.Proofs.Geo

abbrev Z2 := Int × Int
/-- On which side of the line from a to b is p: above 0 on the left. -/
def sideZ (a b p : Z2) : Int := (b.1 - a.1) * (p.2 - a.2) - (b.2 - a.2) * (p.1 - a.1)
/-- The order of the points: by x, then by y; downwards if s is -1. -/
def lx (s : Int) (a b : Z2) : Prop := 0 < s * (b.1 - a.1) ∨ (b.1 = a.1 ∧ 0 < s * (b.2 - a.2))
def pos (s : Int) (u : Z2) : Prop := 0 < s * u.1 ∨ (u.1 = 0 ∧ 0 < s * u.2)
def cr (u v : Z2) : Int := u.1 * v.2 - u.2 * v.1
def IsS (s : Int) : Prop := s = 1 ∨ s = -1

theorem imul {a b : Int} (ha : 0 ≤ a) (hb : 0 ≤ b) : 0 ≤ a * b := Int.mul_nonneg ha hb
theorem imulp {a b : Int} (ha : 0 < a) (hb : 0 < b) : 0 < a * b := Int.mul_pos ha hb
theorem pos_of_imul {a b : Int} (hb : 0 < b) (h : 0 < a * b) : 0 < a := by
  rcases Int.lt_or_le 0 a with h' | h'
  · exact h'
  · have := imul (a := -a) (b := b) (by omega) (by omega)
    grind
theorem nn_of_imul {a b : Int} (hb : 0 < b) (h : 0 ≤ a * b) : 0 ≤ a := by
  rcases Int.lt_or_le a 0 with h' | h'
  · have := imulp (a := -a) (b := b) (by omega) (by omega)
    grind
  · exact h'

theorem cr_cases {u v : Z2} (hu : pos 1 u) (hv : pos 1 v) (h : 0 ≤ cr u v) : (0 < u.1 ∧ 0 < v.1) ∨ (v.1 = 0 ∧ 0 < v.2 ∧ (0 < u.1 ∨ u.1 = 0 ∧ 0 < u.2)) := by
  unfold pos cr at *
  rcases hv with hv | ⟨hv1, hv2⟩
  · rcases hu with hu | ⟨hu1, hu2⟩
    · left; omega
    · exfalso
      have := imulp (a := u.2) (b := v.1) (by omega) (by omega)
      rw [hu1] at h
      omega
  · right; exact ⟨hv1, by omega, by omega⟩

theorem cr_trans1 {u v w : Z2} (hu : pos 1 u) (hv : pos 1 v) (hw : pos 1 w) (h1 : 0 ≤ cr u v) (h2 : 0 ≤ cr v w) : 0 ≤ cr u w := by
  have hid : cr u w * v.1 = cr u v * w.1 + cr v w * u.1 := by unfold cr; grind
  rcases cr_cases hu hv h1 with ⟨a, b⟩ | ⟨a, b, c⟩
  · have hw1 : 0 ≤ w.1 := by unfold pos at hw; omega
    have e1 := imul h1 hw1
    have e2 := imul h2 (by omega : 0 ≤ u.1)
    exact nn_of_imul b (by omega)
  · rcases cr_cases hv hw h2 with ⟨d, e⟩ | ⟨d, e, f⟩
    · omega
    · have : cr u w = u.1 * w.2 := by unfold cr; rw [d]; grind
      rw [this]
      exact imul (by omega) (by omega)

theorem cr_trans1S {u v w : Z2} (hu : pos 1 u) (hv : pos 1 v) (hw : pos 1 w) (h1 : 0 ≤ cr u v) (h2 : 0 ≤ cr v w) (h3 : 0 < cr u v ∨ 0 < cr v w) : 0 < cr u w := by
  have hid : cr u w * v.1 = cr u v * w.1 + cr v w * u.1 := by unfold cr; grind
  rcases cr_cases hu hv h1 with ⟨a, b⟩ | ⟨a, b, c⟩
  · have hw1 : 0 < w.1 ∨ w.1 = 0 ∧ 0 < w.2 := by unfold pos at hw; omega
    rcases hw1 with hw1 | ⟨hw1, hw2⟩
    · have e1 := imul h1 (by omega : 0 ≤ w.1)
      have e2 := imul h2 (by omega : 0 ≤ u.1)
      refine pos_of_imul b ?_
      rcases h3 with h3 | h3
      · have := imulp h3 hw1; omega
      · have := imulp h3 a; omega
    · have : cr u w = u.1 * w.2 := by unfold cr; rw [hw1]; grind
      rw [this]
      exact imulp a hw2
  · rcases cr_cases hv hw h2 with ⟨d, e⟩ | ⟨d, e, f⟩
    · omega
    · have hz : cr v w = 0 := by unfold cr; rw [a, d]; grind
      have h4 : 0 < cr u v := by omega
      have : cr u v = u.1 * v.2 := by unfold cr; rw [a]; grind
      have hu1 : 0 < u.1 := pos_of_imul b (by omega)
      have : cr u w = u.1 * w.2 := by unfold cr; rw [d]; grind
      rw [this]
      exact imulp hu1 e

theorem cr_neg (u v : Z2) : cr (-u.1, -u.2) (-v.1, -v.2) = cr u v := by unfold cr; grind
theorem pos_neg {u : Z2} (h : pos (-1) u) : pos 1 (-u.1, -u.2) := by unfold pos at *; simp only; omega

theorem cr_trans {s : Int} (hs : IsS s) {u v w : Z2} (hu : pos s u) (hv : pos s v) (hw : pos s w) (h1 : 0 ≤ cr u v) (h2 : 0 ≤ cr v w) : 0 ≤ cr u w := by
  rcases hs with rfl | rfl
  · exact cr_trans1 hu hv hw h1 h2
  · have := cr_trans1 (pos_neg hu) (pos_neg hv) (pos_neg hw) (by rw [cr_neg]; exact h1) (by rw [cr_neg]; exact h2)
    rwa [cr_neg] at this
theorem cr_transS {s : Int} (hs : IsS s) {u v w : Z2} (hu : pos s u) (hv : pos s v) (hw : pos s w) (h1 : 0 ≤ cr u v) (h2 : 0 ≤ cr v w) (h3 : 0 < cr u v ∨ 0 < cr v w) : 0 < cr u w := by
  rcases hs with rfl | rfl
  · exact cr_trans1S hu hv hw h1 h2 h3
  · have := cr_trans1S (pos_neg hu) (pos_neg hv) (pos_neg hw) (by rw [cr_neg]; exact h1) (by rw [cr_neg]; exact h2) (by rw [cr_neg, cr_neg]; exact h3)
    rwa [cr_neg] at this

def sub2 (a b : Z2) : Z2 := (a.1 - b.1, a.2 - b.2)
theorem lx_pos {s : Int} {a b : Z2} (h : lx s a b) : pos s (sub2 b a) := by
  unfold lx at h; unfold pos sub2; simp only; omega
theorem side_cr (a b p : Z2) : sideZ a b p = cr (sub2 b a) (sub2 p a) := by unfold sideZ cr sub2; grind
theorem side_cr2 (a b p : Z2) : sideZ a b p = cr (sub2 b a) (sub2 p b) := by unfold sideZ cr sub2; grind
theorem lx_trans {s : Int} (hs : IsS s) {a b c : Z2} (h1 : lx s a b) (h2 : lx s b c) : lx s a c := by
  unfold lx at *; rcases hs with rfl | rfl <;> omega
theorem lx_tri {s : Int} (hs : IsS s) (a b : Z2) : a = b ∨ lx s a b ∨ lx s b a := by
  obtain ⟨x, y⟩ := a
  obtain ⟨u, v⟩ := b
  unfold lx; simp only [Prod.mk.injEq]; rcases hs with rfl | rfl <;> omega

/-- Taking away what does not turn left, then adding a point. The last point stands first. -/
def push : List Z2 → Z2 → List Z2
  | c :: b :: r, p => if sideZ b c p ≤ 0 then push (b :: r) p else p :: c :: b :: r
  | [c], p => [p, c]
  | [], p => [p]

/-- A chain of points over a set of points. -/
def Ch (s : Int) (S : List Z2) : List Z2 → Prop
  | [] => False
  | [a] => a ∈ S ∧ ∀ q ∈ S, q = a ∨ lx s a q
  | c :: b :: r => c ∈ S ∧ lx s b c ∧ (∀ q ∈ S, 0 ≤ sideZ b c q) ∧ (∀ a ∈ r.head?, 0 < sideZ a b c) ∧ Ch s S (b :: r)

theorem Ch.mem {s : Int} {S : List Z2} {c : Z2} : ∀ {r : List Z2}, Ch s S (c :: r) → c ∈ S
  | [], h => h.1
  | _ :: _, h => h.1

theorem Ch.add {s : Int} (hs : IsS s) {S : List Z2} {p : Z2} (hp : ∀ q ∈ S, lx s q p) : ∀ {r : List Z2} {c b : Z2}, Ch s S (c :: b :: r) → 0 < sideZ b c p → Ch s (p :: S) (c :: b :: r)
  | [], c, b, ⟨h1, h2, h3, _, h5⟩, h => ⟨List.mem_cons_of_mem _ h1, h2, fun q hq => by
      rcases List.mem_cons.1 hq with rfl | hq
      · omega
      · exact h3 q hq, fun a ha => by simp at ha, List.mem_cons_of_mem _ h5.1, fun q hq => by
      rcases List.mem_cons.1 hq with rfl | hq
      · exact .inr (hp _ h5.1)
      · exact h5.2 q hq⟩
  | a :: r, c, b, ⟨h1, h2, h3, h4, h5⟩, h => ⟨List.mem_cons_of_mem _ h1, h2, fun q hq => by
      rcases List.mem_cons.1 hq with rfl | hq
      · omega
      · exact h3 q hq, h4, Ch.add hs hp (r := r) (c := b) (b := a) h5 (by
      have h6 := h4 a (by simp)
      rw [side_cr2] at h6
      rw [side_cr2] at h
      have hb : b ∈ S := h5.1
      rw [side_cr2]
      have hc : c ∈ S := h1
      have e : cr (sub2 c b) (sub2 p b) = cr (sub2 c b) (sub2 p c) := by unfold cr sub2; grind
      exact cr_transS hs (lx_pos h5.2.1) (lx_pos h2) (lx_pos (hp b hb)) (by omega) (by omega) (.inl h6))⟩

theorem push_ch {s : Int} (hs : IsS s) {S : List Z2} {p : Z2} (hp : ∀ q ∈ S, lx s q p) : ∀ {r : List Z2} {c : Z2}, Ch s S (c :: r) → (∀ q ∈ S, lx s c q → 0 ≤ sideZ c p q) → Ch s (p :: S) (push (c :: r) p)
  | [], c, h, ht => ⟨List.mem_cons_self .., hp c h.1, fun q hq => by
      rcases List.mem_cons.1 hq with rfl | hq
      · have : sideZ c q q = 0 := by unfold sideZ; grind
        omega
      · rcases h.2 q hq with rfl | hc
        · have : sideZ q p q = 0 := by unfold sideZ; grind
          omega
        · exact ht q hq hc, fun a ha => by simp at ha, List.mem_cons_of_mem _ h.1, fun q hq => by
      rcases List.mem_cons.1 hq with rfl | hq
      · exact .inr (hp c h.1)
      · exact h.2 q hq⟩
  | b :: r, c, h, ht => by
    obtain ⟨h1, h2, h3, h4, h5⟩ := h
    unfold push
    split
    · rename_i hle
      refine push_ch hs hp h5 fun q hq hbq => ?_
      have hb : b ∈ S := h5.mem
      have e1 : sideZ b p c = - sideZ b c p := by unfold sideZ; grind
      rw [side_cr]
      refine cr_trans hs (lx_pos (hp b hb)) (lx_pos h2) (lx_pos hbq) ?_ ?_
      · rw [← side_cr]; omega
      · rw [← side_cr]; exact h3 q hq
    · rename_i hgt
      refine ⟨List.mem_cons_self .., hp c h1, fun q hq => ?_, fun a ha => ?_, Ch.add hs hp ⟨h1, h2, h3, h4, h5⟩ (by omega)⟩
      · rcases List.mem_cons.1 hq with rfl | hq
        · have : sideZ c q q = 0 := by unfold sideZ; grind
          omega
        · rcases lx_tri hs c q with rfl | hc | hc
          · have : sideZ c p c = 0 := by unfold sideZ; grind
            omega
          · exact ht q hq hc
          · -- q below c
            have g1 : 0 ≤ cr (sub2 c q) (sub2 c b) := by
              have := h3 q hq
              rw [side_cr2] at this
              have e : cr (sub2 c q) (sub2 c b) = cr (sub2 c b) (sub2 q c) := by unfold cr sub2; grind
              omega
            have g2 : 0 < cr (sub2 c b) (sub2 p c) := by rw [← side_cr2]; omega
            have := cr_trans hs (lx_pos hc) (lx_pos h2) (lx_pos (hp c h1)) g1 (by omega)
            have e : sideZ c p q = cr (sub2 c q) (sub2 p c) := by unfold sideZ cr sub2; grind
            omega
      · simp only [List.head?_cons, Option.mem_def, Option.some.injEq] at ha
        subst ha; omega

theorem push_head (p : Z2) : ∀ l : List Z2, ∃ r, push l p = p :: r
  | [] => ⟨[], rfl⟩
  | [c] => ⟨[c], rfl⟩
  | c :: b :: r => by
    unfold push
    split
    · exact push_head p (b :: r)
    · exact ⟨_, rfl⟩

/-- The chain over points in rising order. -/
def chainZ (l : List Z2) : List Z2 := l.foldl push []

theorem chain_go {s : Int} (hs : IsS s) : ∀ (l : List Z2) (S st : List Z2) (c : Z2), Ch s S (c :: st) → (∀ q ∈ S, q = c ∨ lx s q c) → (∀ p ∈ l, lx s c p) → l.Pairwise (lx s) →
    ∃ d r, l.foldl push (c :: st) = d :: r ∧ Ch s (l.reverse ++ S) (d :: r) ∧ (∀ q ∈ l.reverse ++ S, q = d ∨ lx s q d)
  | [], S, st, c, h, hc, _, _ => ⟨c, st, rfl, h, hc⟩
  | p :: l, S, st, c, h, hc, hl, hw => by
    obtain ⟨r, hr⟩ := push_head p (c :: st)
    have hcp : lx s c p := hl p (List.mem_cons_self ..)
    have hSp : ∀ q ∈ S, lx s q p := fun q hq => by
      rcases hc q hq with rfl | h'
      · exact hcp
      · exact lx_trans hs h' hcp
    have h1 := push_ch hs hSp h fun q hq hcq => by
      rcases hc q hq with rfl | h'
      · unfold lx at hcq; omega
      · have := lx_trans hs hcq h'
        unfold lx at this; omega
    rw [hr] at h1
    obtain ⟨d, r', g1, g2, g3⟩ := chain_go hs l (p :: S) r p h1 (fun q hq => by
      rcases List.mem_cons.1 hq with rfl | hq
      · exact .inl rfl
      · exact .inr (hSp q hq)) (fun q hq => (List.pairwise_cons.1 hw).1 q hq) (List.pairwise_cons.1 hw).2
    refine ⟨d, r', ?_, ?_, ?_⟩
    · rw [List.foldl_cons, hr]; exact g1
    · simpa using g2
    · intro q hq; exact g3 q (by simpa using hq)

theorem Ch.congr {s : Int} {S S' : List Z2} (h : ∀ q, q ∈ S ↔ q ∈ S') : ∀ {st : List Z2}, Ch s S st → Ch s S' st
  | [], g => g
  | [a], g => ⟨(h a).1 g.1, fun q hq => g.2 q ((h q).2 hq)⟩
  | c :: b :: r, g => ⟨(h c).1 g.1, g.2.1, fun q hq => g.2.2.1 q ((h q).2 hq), g.2.2.2.1, Ch.congr h g.2.2.2.2⟩

theorem chain_ch {s : Int} (hs : IsS s) {a : Z2} {l : List Z2} (hw : (a :: l).Pairwise (lx s)) :
    ∃ d r, chainZ (a :: l) = d :: r ∧ Ch s (a :: l) (d :: r) ∧ (∀ q ∈ a :: l, q = d ∨ lx s q d) := by
  obtain ⟨d, r, h1, h2, h3⟩ := chain_go hs l [a] [] a ⟨List.mem_cons_self .., fun q hq => .inl (by simpa using hq)⟩ (fun q hq => .inl (by simpa using hq)) (fun p hp => (List.pairwise_cons.1 hw).1 p hp) (List.pairwise_cons.1 hw).2
  exact ⟨d, r, h1, h2.congr (fun q => by simp [or_comm]), fun q hq => h3 q (by simpa [or_comm] using hq)⟩
end Go.Proofs.Geo

/- The closed way round a convex hull; no program here. -/
namespace Go.Proofs.Geo

/-- The edges of a way whose last point stands first. -/
def rpairs : List Z2 → List (Z2 × Z2)
  | c :: b :: r => (b, c) :: rpairs (b :: r)
  | _ => []
def TriR : List Z2 → Prop
  | c :: b :: r => (∀ a ∈ r.head?, 0 < sideZ a b c) ∧ TriR (b :: r)
  | _ => True

theorem Ch.tri {s : Int} {S : List Z2} : ∀ {st : List Z2}, Ch s S st → TriR st
  | [], _ => trivial
  | [_], _ => trivial
  | _ :: _ :: _, h => ⟨h.2.2.2.1, Ch.tri h.2.2.2.2⟩
theorem Ch.edge {s : Int} {S : List Z2} : ∀ {st : List Z2}, Ch s S st → ∀ e ∈ rpairs st, e.1 ∈ S ∧ e.2 ∈ S ∧ lx s e.1 e.2 ∧ ∀ q ∈ S, 0 ≤ sideZ e.1 e.2 q
  | [], h, e, he => h.elim
  | [_], _, e, he => by cases he
  | c :: b :: r, h, e, he => by
    rcases List.mem_cons.1 he with rfl | he
    · exact ⟨h.2.2.2.2.mem, h.1, h.2.1, h.2.2.1⟩
    · exact Ch.edge h.2.2.2.2 e he
theorem Ch.all_mem {s : Int} {S : List Z2} : ∀ {st : List Z2}, Ch s S st → ∀ q ∈ st, q ∈ S
  | [], h, e, he => h.elim
  | [a], h, e, he => by obtain rfl : e = a := by simpa using he
                        exact h.1
  | c :: b :: r, h, e, he => by
    rcases List.mem_cons.1 he with rfl | he
    · exact h.1
    · exact Ch.all_mem h.2.2.2.2 e he
theorem Ch.last {s : Int} {S : List Z2} : ∀ {st : List Z2}, Ch s S st → ∃ l a, st = l ++ [a] ∧ a ∈ S ∧ ∀ q ∈ S, q = a ∨ lx s a q
  | [], h => h.elim
  | [a], h => ⟨[], a, rfl, h.1, h.2⟩
  | c :: b :: r, h => by
    obtain ⟨l, a, h1, h2, h3⟩ := Ch.last h.2.2.2.2
    exact ⟨c :: l, a, by rw [h1]; rfl, h2, h3⟩

theorem rpairs_app (R : Z2) (ys : List Z2) : ∀ xs : List Z2, rpairs (xs ++ R :: ys) = rpairs (xs ++ [R]) ++ rpairs (R :: ys)
  | [] => by simp [rpairs]
  | [x] => by simp [rpairs]
  | x :: y :: xs => by
    have := rpairs_app R ys (y :: xs)
    simp only [List.cons_append, rpairs] at *
    rw [this]
theorem tri_app {R : Z2} {ys : List Z2} : ∀ {xs : List Z2}, TriR (xs ++ [R]) → TriR (R :: ys) → (∀ w ∈ xs.getLast?, ∀ b ∈ ys.head?, 0 < sideZ b R w) → TriR (xs ++ R :: ys)
  | [], _, h, _ => h
  | [x], _, h, hj => ⟨fun a ha => hj x (by simp) a ha, h⟩
  | x :: y :: xs, h, h2, hj => by
    refine ⟨fun a ha => h.1 a ?_, tri_app (xs := y :: xs) h.2 h2 fun w hw b hb => hj w (by simpa [List.getLast?_cons_cons] using hw) b hb⟩
    cases xs with
    | nil => simpa using ha
    | cons z zs => simpa using ha

theorem next_or_top : ∀ {C : List Z2}, TriR C → ∀ e ∈ rpairs C, (∃ d, (e.2, d) ∈ rpairs C ∧ 0 < sideZ e.1 e.2 d) ∨ ∃ r, C = e.2 :: e.1 :: r
  | [], _, e, he => by cases he
  | [_], _, e, he => by cases he
  | c :: b :: r, h, e, he => by
    rcases List.mem_cons.1 he with rfl | he
    · exact .inr ⟨r, rfl⟩
    · left
      rcases next_or_top h.2 e he with ⟨d, h1, h2⟩ | ⟨r', hr⟩
      · exact ⟨d, List.mem_cons_of_mem _ h1, h2⟩
      · obtain ⟨rfl, rfl⟩ := List.cons.inj hr
        exact ⟨c, List.mem_cons_self .., h.1 _ (by simp)⟩
theorem prev_or_end : ∀ {C : List Z2}, TriR C → ∀ e ∈ rpairs C, (∃ z, (z, e.1) ∈ rpairs C ∧ 0 < sideZ z e.1 e.2) ∨ ∃ r, C = r ++ [e.2, e.1]
  | [], _, e, he => by cases he
  | [_], _, e, he => by cases he
  | c :: b :: r, h, e, he => by
    rcases List.mem_cons.1 he with rfl | he
    · cases r with
      | nil => exact .inr ⟨[], rfl⟩
      | cons a r => exact .inl ⟨a, by simp [rpairs], h.1 a (by simp)⟩
    · rcases prev_or_end h.2 e he with ⟨d, h1, h2⟩ | ⟨r', hr⟩
      · exact .inl ⟨d, List.mem_cons_of_mem _ h1, h2⟩
      · exact .inr ⟨c :: r', by rw [hr]; rfl⟩

theorem cr_par {s : Int} (hs : IsS s) {u v z : Z2} (hu : pos s u) (hv : pos s v) (h : cr u v = 0) (h1 : 0 ≤ cr u z) (h2 : cr v z ≤ 0) : cr u z = 0 := by
  have i1 : u.1 * cr v z = v.1 * cr u z - z.1 * cr u v := by unfold cr; grind
  have i2 : u.2 * cr v z = v.2 * cr u z - z.2 * cr u v := by unfold cr; grind
  rw [h] at i1 i2
  have key : ∀ a b : Int, 0 < a → 0 < b → a * cr v z = b * cr u z → cr u z = 0 := fun a b ha hb e => by
    have p1 := imul (a := a) (b := - cr v z) (by omega) (by omega)
    rcases Int.lt_or_le 0 (cr u z) with h' | h'
    · have := imulp hb h'
      grind
    · omega
  have hc : cr u v = u.1 * v.2 - u.2 * v.1 := rfl
  rw [h] at hc
  unfold pos at hu hv
  have zero : ∀ a b : Int, a * b = 0 → a ≠ 0 → b = 0 := fun a b hab ha => by
    rcases Int.mul_eq_zero.1 hab with h | h
    · exact absurd h ha
    · exact h
  rcases hu with hu | ⟨hu1, hu2⟩
  · rcases hv with hv | ⟨hv1, hv2⟩
    · rcases hs with rfl | rfl
      · exact key u.1 v.1 (by omega) (by omega) (by omega)
      · refine key (-u.1) (-v.1) (by omega) (by omega) (by grind)
    · rw [hv1] at hc
      have := zero u.1 v.2 (by omega) (by rcases hs with rfl | rfl <;> omega)
      rw [this] at hv2; omega
  · rw [hu1] at hc
    have hv1 := zero u.2 v.1 (by omega) (by rcases hs with rfl | rfl <;> rintro e <;> rw [e] at hu2 <;> omega)
    rcases hv with hv | ⟨hv1', hv2⟩
    · rw [hv1] at hv; omega
    · rcases hs with rfl | rfl
      · exact key u.2 v.2 (by omega) (by omega) (by omega)
      · refine key (-u.2) (-v.2) (by omega) (by omega) (by grind)

theorem joint {s : Int} (hs : IsS s) {S : List Z2} {b R w : Z2} (hb : lx s b R) (hw : lx s w R) (wS : w ∈ S) (h1 : ∀ q ∈ S, 0 ≤ sideZ b R q) (h2 : ∀ q ∈ S, 0 ≤ sideZ R w q)
    (hn : ∃ x ∈ S, ∃ y ∈ S, ∃ z ∈ S, 0 < sideZ x y z) : 0 < sideZ b R w := by
  have h0 := h1 w wS
  rcases Int.lt_or_le 0 (sideZ b R w) with h | h
  · exact h
  exfalso
  have e0 : sideZ b R w = 0 := by omega
  have hu := lx_pos hb
  have hv := lx_pos hw
  have huv : cr (sub2 R b) (sub2 R w) = 0 := by
    have : cr (sub2 R b) (sub2 R w) = - sideZ b R w := by unfold cr sub2 sideZ; grind
    omega
  have all : ∀ q ∈ S, cr (sub2 R b) (sub2 q R) = 0 := fun q hq => by
    refine cr_par hs hu hv huv ?_ ?_
    · have := h1 q hq
      rw [side_cr2] at this; exact this
    · have := h2 q hq
      have e : sideZ R w q = - cr (sub2 R w) (sub2 q R) := by unfold cr sub2 sideZ; grind
      omega
  obtain ⟨x, hx, y, hy, z, hz, hpos⟩ := hn
  have ex := all x hx
  have ey := all y hy
  have ez := all z hz
  have i1 : (sub2 R b).1 * sideZ x y z = 0 := by
    have : (sub2 R b).1 * sideZ x y z = ((y.1 - x.1) * (cr (sub2 R b) (sub2 z R) - cr (sub2 R b) (sub2 x R)) - (z.1 - x.1) * (cr (sub2 R b) (sub2 y R) - cr (sub2 R b) (sub2 x R))) := by
      unfold cr sub2 sideZ; grind
    rw [this, ex, ey, ez]; grind
  have i2 : (sub2 R b).2 * sideZ x y z = 0 := by
    have : (sub2 R b).2 * sideZ x y z = ((y.2 - x.2) * (cr (sub2 R b) (sub2 z R) - cr (sub2 R b) (sub2 x R)) - (z.2 - x.2) * (cr (sub2 R b) (sub2 y R) - cr (sub2 R b) (sub2 x R))) := by
      unfold cr sub2 sideZ; grind
    rw [this, ex, ey, ez]; grind
  have : (sub2 R b).1 = 0 ∧ (sub2 R b).2 = 0 := by
    constructor
    · rcases Int.mul_eq_zero.1 i1 with h | h
      · exact h
      · omega
    · rcases Int.mul_eq_zero.1 i2 with h | h
      · exact h
      · omega
  unfold pos at hu
  rw [this.1, this.2] at hu
  omega

theorem lx_flip {s : Int} {a b : Z2} (h : lx s a b) : lx (-s) b a := by
  unfold lx at *
  rcases h with h | ⟨h1, h2⟩
  · left; grind
  · right; exact ⟨h1.symm, by grind⟩

theorem tri_three {S : List Z2} : ∀ {st : List Z2}, TriR st → (∀ q ∈ st, q ∈ S) → 3 ≤ st.length → ∃ x ∈ S, ∃ y ∈ S, ∃ z ∈ S, 0 < sideZ x y z
  | c :: b :: a :: _, h, hm, _ => ⟨a, hm _ (by simp), b, hm _ (by simp), c, hm _ (by simp), h.1 a (by simp)⟩

/-- The way round: both chains. -/
theorem hull_poly {S st1 st2 : List Z2} {L R : Z2} {r1 r2 : List Z2} (h1 : Ch 1 S st1) (h2 : Ch (-1) S st2) (e1 : st1 = R :: r1) (e2 : st2 = L :: r2) (t1 : ∃ l, st1 = l ++ [L]) (t2 : ∃ l, st2 = l ++ [R])
    (hn : L ≠ R) (h3 : 3 ≤ r1.length + r2.length) :
    (∀ e ∈ rpairs (st2 ++ r1), ∃ d, (e.2, d) ∈ rpairs (st2 ++ r1) ∧ 0 < sideZ e.1 e.2 d) ∧ (∀ e ∈ rpairs (st2 ++ r1), ∃ z, (z, e.1) ∈ rpairs (st2 ++ r1) ∧ 0 < sideZ z e.1 e.2) ∧
    (∀ e ∈ rpairs (st2 ++ r1), ∀ q ∈ S, 0 ≤ sideZ e.1 e.2 q) := by
  obtain ⟨l1, t1⟩ := t1
  obtain ⟨l2, t2⟩ := t2
  have hsplit : st2 ++ r1 = l2 ++ R :: r1 := by rw [t2]; simp
  have hp : rpairs (st2 ++ r1) = rpairs st2 ++ rpairs st1 := by rw [hsplit, rpairs_app, ← t2, ← e1]
  have hleft : ∀ e ∈ rpairs (st2 ++ r1), ∀ q ∈ S, 0 ≤ sideZ e.1 e.2 q := fun e he q hq => by
    rw [hp] at he
    rcases List.mem_append.1 he with he | he
    · exact (h2.edge e he).2.2.2 q hq
    · exact (h1.edge e he).2.2.2 q hq
  -- not all on one line
  have hnc : ∃ x ∈ S, ∃ y ∈ S, ∃ z ∈ S, 0 < sideZ x y z := by
    rcases Nat.lt_or_ge st1.length 3 with h | h
    · refine tri_three h2.tri h2.all_mem ?_
      rw [e2]; rw [e1] at h; simp only [List.length_cons] at *; omega
    · exact tri_three h1.tri h1.all_mem h
  -- the ends of the chains
  obtain ⟨b, r1', rfl⟩ : ∃ b r, r1 = b :: r := by
    cases r1 with
    | nil => rw [e1] at t1; cases l1 with
      | nil => simp at t1; exact absurd t1.symm hn
      | cons x l => simp at t1
    | cons b r => exact ⟨b, r, rfl⟩
  obtain ⟨w', r2', rfl⟩ : ∃ b r, r2 = b :: r := by
    cases r2 with
    | nil => rw [e2] at t2; cases l2 with
      | nil => simp at t2; exact absurd t2 hn
      | cons x l => simp at t2
    | cons b r => exact ⟨b, r, rfl⟩
  have hl1 : l1 ≠ [] := fun e => by rw [e, e1] at t1; simp at t1
  have hl2 : l2 ≠ [] := fun e => by rw [e, e2] at t2; simp at t2
  obtain ⟨k1, v, rfl⟩ : ∃ k v, l1 = k ++ [v] := ⟨_, _, (List.dropLast_concat_getLast hl1).symm⟩
  obtain ⟨k2, w, rfl⟩ : ∃ k v, l2 = k ++ [v] := ⟨_, _, (List.dropLast_concat_getLast hl2).symm⟩
  have m1 : (b, R) ∈ rpairs st1 := by rw [e1]; simp [rpairs]
  have m2 : (w', L) ∈ rpairs st2 := by rw [e2]; simp [rpairs]
  have m3 : (L, v) ∈ rpairs st1 := by
    rw [t1, List.append_assoc]
    show (L, v) ∈ rpairs (k1 ++ v :: [L])
    rw [rpairs_app]; simp [rpairs]
  have m4 : (R, w) ∈ rpairs st2 := by
    rw [t2, List.append_assoc]
    show (R, w) ∈ rpairs (k2 ++ w :: [R])
    rw [rpairs_app]; simp [rpairs]
  have f1 := h1.edge _ m1
  have f2 := h2.edge _ m2
  have f3 := h1.edge _ m3
  have f4 := h2.edge _ m4
  have j1 : 0 < sideZ b R w := joint (.inl rfl) f1.2.2.1 (by have := lx_flip f4.2.2.1; simpa using this) f4.2.1 f1.2.2.2 f4.2.2.2 hnc
  have j2 : 0 < sideZ w' L v := joint (s := -1) (.inr rfl) f2.2.2.1 (by have := lx_flip f3.2.2.1; simpa using this) f3.2.1 f2.2.2.2 f3.2.2.2 hnc
  have htri : TriR (st2 ++ b :: r1') := by
    rw [hsplit]
    refine tri_app (by rw [← t2]; exact h2.tri) (by rw [← e1]; exact h1.tri) fun x hx y hy => ?_
    simp only [List.getLast?_append, List.getLast?_singleton, Option.some_or, Option.mem_def, Option.some.injEq] at hx
    simp only [List.head?_cons, Option.mem_def, Option.some.injEq] at hy
    subst hx; subst hy; exact j1
  have mtop : (w', L) ∈ rpairs (st2 ++ b :: r1') := by rw [hp]; exact List.mem_append_left _ m2
  have mend : (L, v) ∈ rpairs (st2 ++ b :: r1') := by rw [hp]; exact List.mem_append_right _ m3
  refine ⟨fun e he => ?_, fun e he => ?_, hleft⟩
  · rcases next_or_top htri e he with h | ⟨r, hr⟩
    · exact h
    · rw [e2] at hr
      simp only [List.cons_append] at hr
      injection hr with g1 g2
      injection g2 with g2 g3
      rw [← g1, ← g2]
      exact ⟨v, mend, j2⟩
  · rcases prev_or_end htri e he with h | ⟨r, hr⟩
    · exact h
    · have : st2 ++ b :: r1' = (k2 ++ [w] ++ k1) ++ [v, L] := by
        have : R :: b :: r1' = k1 ++ [v, L] := by rw [← e1, t1]; simp
        rw [hsplit, this]; simp
      rw [this] at hr
      have g := List.append_inj' hr rfl
      injection g.2 with g1 g2
      injection g2 with g2 g3
      rw [← g1, ← g2]
      exact ⟨w', mtop, j2⟩
end Go.Proofs.Geo

/- How near: by whole numbers, and by points of a straight line. -/
namespace Go.Proofs.Geo

def toP (z : Z2) : Pt := ⟨(z.1 : Rat), (z.2 : Rat)⟩
theorem side_cast (a b p : Z2) : side (toP a) (toP b) (toP p) = ((sideZ a b p : Int) : Rat) := by
  unfold side toP sideZ
  simp only [Rat.intCast_sub, Rat.intCast_mul]
theorem cast_le {a b : Int} : (a : Rat) ≤ (b : Rat) ↔ a ≤ b := Rat.intCast_le_intCast
theorem cast_lt {a b : Int} : (a : Rat) < (b : Rat) ↔ a < b := Rat.intCast_lt_intCast
theorem cast_nn {a : Int} : 0 ≤ (a : Rat) ↔ 0 ≤ a := by rw [← Rat.intCast_zero, cast_le]
theorem cast_pos {a : Int} : 0 < (a : Rat) ↔ 0 < a := by rw [← Rat.intCast_zero, cast_lt]
theorem cast_np {a : Int} : (a : Rat) ≤ 0 ↔ a ≤ 0 := by rw [← Rat.intCast_zero, cast_le]

def ddot (a b p q : Pt) : Rat := (b.x - a.x) * (q.x - p.x) + (b.y - a.y) * (q.y - p.y)
theorem dst_form (a b p : Pt) (t : Rat) : dst (on a b t) p = t * t * ddot a b a b - 2 * t * ddot a b a p + ddot a p a p := by unfold dst on ddot; grind
theorem cross_form (a b p : Pt) : side a b p * side a b p = ddot a b a b * ddot a p a p - ddot a b a p * ddot a b a p := by unfold side ddot; grind

theorem near_iff (a b p : Pt) (q : Rat) : Near a b p q ↔ if ddot a b a p ≤ 0 then ddot a p a p ≤ q else if ddot a b a b ≤ ddot a b a p then ddot b p b p ≤ q else side a b p * side a b p ≤ q * ddot a b a b := by
  have hdd : 0 ≤ ddot a b a b := by
    have h1 := sqnn (b.x - a.x)
    have h2 := sqnn (b.y - a.y)
    unfold ddot; grind
  have hb : ddot b p b p = ddot a b a b - 2 * ddot a b a p + ddot a p a p := by unfold ddot; grind
  unfold Near
  simp only [dst_form]
  rw [cross_form, hb]
  generalize ddot a b a b = dd at *
  generalize ddot a b a p = ud at *
  generalize ddot a p a p = uu at *
  split
  · rename_i h
    constructor
    · rintro ⟨t, h0, h1, h2⟩
      have p1 := mulnn (sqnn t) hdd
      have p2 := mulnn h0 (show 0 ≤ -ud by grind)
      grind
    · intro h2
      exact ⟨0, by grind, by grind, by grind⟩
  · split
    · rename_i h h'
      constructor
      · rintro ⟨t, h0, h1, h2⟩
        have p1 := mulnn (show 0 ≤ 1 - t by grind) (show 0 ≤ ud - dd by grind)
        have p2 := mulnn (mulnn (show 0 ≤ 1 - t by grind) (show 0 ≤ 1 - t by grind)) hdd
        grind
      · intro h2
        exact ⟨1, by grind, by grind, by grind⟩
    · rename_i h h'
      have hd : 0 < dd := by grind
      constructor
      · rintro ⟨t, h0, h1, h2⟩
        have p1 := sqnn (t * dd - ud)
        have p2 := mulnn hdd (show 0 ≤ q - (t * t * dd - 2 * t * ud + uu) by grind)
        grind
      · intro h2
        obtain ⟨t, ht⟩ := div_ex (n := ud) (d := dd) (by grind)
        refine ⟨t, pos_of_mul hd (by grind), le_of_mul hd (by grind), le_of_mul hd ?_⟩
        have : (t * t * dd - 2 * t * ud + uu) * dd = dd * uu - ud * ud := by
          have : (t * t * dd - 2 * t * ud + uu) * dd = (t * dd) * (t * dd) - 2 * (t * dd) * ud + uu * dd := by grind
          rw [this, ht]; grind
        rw [this]; exact h2

def dotZ (a b p q : Z2) : Int := (b.1 - a.1) * (q.1 - p.1) + (b.2 - a.2) * (q.2 - p.2)
theorem ddot_cast (a b p q : Z2) : ddot (toP a) (toP b) (toP p) (toP q) = ((dotZ a b p q : Int) : Rat) := by
  unfold ddot toP dotZ
  simp only [Rat.intCast_sub, Rat.intCast_mul, Rat.intCast_add]

/-- Is p no farther than r from the line between a and b? -/
def nearZ (a b p : Z2) (r : Int) : Bool :=
  if dotZ a b a p ≤ 0 then decide (dotZ a p a p ≤ r * r)
  else if dotZ a b a p ≥ dotZ a b a b then decide (dotZ b p b p ≤ r * r)
  else decide (sideZ a b p * sideZ a b p ≤ r * r * dotZ a b a b)

theorem nearZ_iff (a b p : Z2) (r : Int) : nearZ a b p r = true ↔ Near (toP a) (toP b) (toP p) ((r : Rat) * (r : Rat)) := by
  rw [near_iff]
  simp only [ddot_cast, side_cast]
  unfold nearZ
  simp only [← Rat.intCast_mul, cast_le, cast_np]
  split
  · simp
  · rename_i h
    split
    · simp
    · simp
end Go.Proofs.Geo

/- Touching a convex hull: by the hull's edges, by pairs and triples of points, and by points between points. -/
namespace Go.Proofs.Geo

/-- The points between points. -/
inductive Conv (S : List Z2) : Pt → Prop where
  | pt (p : Z2) (h : p ∈ S) : Conv S (toP p)
  | seg (a b : Pt) (t : Rat) (h0 : 0 ≤ t) (h1 : t ≤ 1) (ha : Conv S a) (hb : Conv S b) : Conv S (on a b t)

theorem Conv.left {S : List Z2} {a b : Z2} (h : ∀ q ∈ S, 0 ≤ sideZ a b q) {x : Pt} (hx : Conv S x) : 0 ≤ side (toP a) (toP b) x := by
  induction hx with
  | pt p hp => rw [side_cast, cast_nn]; exact h p hp
  | seg c d t h0 h1 _ _ hc hd =>
    rw [side_on]
    have e1 := mulnn h0 hd
    have e2 := mulnn (show 0 ≤ 1 - t by grind) hc
    grind

/-- Some point between the points is no farther than r from m. -/
def TouchS (S : List Z2) (m : Z2) (r : Int) : Prop := ∃ x, Conv S x ∧ dst x (toP m) ≤ (r : Rat) * (r : Rat)

/-- Is m in a triangle that is not flat? (All signs alike.) -/
def WithinZ (m a b c : Z2) : Prop := sideZ a b c ≠ 0 ∧ ((0 ≤ sideZ a b m ∧ 0 ≤ sideZ b c m ∧ 0 ≤ sideZ c a m) ∨ (sideZ a b m ≤ 0 ∧ sideZ b c m ≤ 0 ∧ sideZ c a m ≤ 0))
def TouchR (S : List Z2) (m : Z2) (r : Int) : Prop := (∃ a ∈ S, ∃ b ∈ S, nearZ a b m r = true) ∨ ∃ a ∈ S, ∃ b ∈ S, ∃ c ∈ S, WithinZ m a b c

theorem side_sum (a b c m : Pt) : side a b m + side b c m + side c a m = side a b c := by unfold side; grind

theorem conv_tri {S : List Z2} {a b c m : Z2} (ha : a ∈ S) (hb : b ∈ S) (hc : c ∈ S) (hz : 0 < sideZ a b c) (h1 : 0 ≤ sideZ a b m) (h2 : 0 ≤ sideZ b c m) (h3 : 0 ≤ sideZ c a m) : Conv S (toP m) := by
  have e := side_sum (toP a) (toP b) (toP c) (toP m)
  have k1 : 0 ≤ side (toP a) (toP b) (toP m) := by rw [side_cast, cast_nn]; exact h1
  have k2 : 0 ≤ side (toP b) (toP c) (toP m) := by rw [side_cast, cast_nn]; exact h2
  have k3 : 0 ≤ side (toP c) (toP a) (toP m) := by rw [side_cast, cast_nn]; exact h3
  have k0 : 0 < side (toP a) (toP b) (toP c) := by rw [side_cast, cast_pos]; exact hz
  have pa := Conv.pt a ha
  have pb := Conv.pt b hb
  have pc := Conv.pt c hc
  generalize toP a = A at *
  generalize toP b = B at *
  generalize toP c = C at *
  generalize toP m = M at *
  have bx : M.x * side A B C = A.x * side B C M + B.x * side C A M + C.x * side A B M := by unfold side; grind
  have bY : M.y * side A B C = A.y * side B C M + B.y * side C A M + C.y * side A B M := by unfold side; grind
  by_cases hy : side B C M + side C A M = 0
  · have g1 : side B C M = 0 := by grind
    have g2 : side C A M = 0 := by grind
    have : M = C := by
      rw [g1, g2] at bx bY
      have e2 : side A B M = side A B C := by grind
      rw [e2] at bx bY
      have : M.x = C.x := by
        have : (M.x - C.x) * side A B C = 0 := by grind
        rcases Rat.mul_eq_zero.1 this with h | h <;> grind
      have : M.y = C.y := by
        have : (M.y - C.y) * side A B C = 0 := by grind
        rcases Rat.mul_eq_zero.1 this with h | h <;> grind
      cases M; cases C; simp only [Pt.mk.injEq]; simp only at *; grind
    rw [this]; exact pc
  · have hd : 0 < side B C M + side C A M := by grind
    obtain ⟨t, ht⟩ := div_ex (n := side C A M) (d := side B C M + side C A M) hy
    obtain ⟨s, hs⟩ := div_ex (n := side A B M) (d := side A B C) (by grind)
    have t0 := pos_of_mul hd (t := t) (by grind)
    have t1 : t ≤ 1 := le_of_mul hd (by grind)
    have s0 := pos_of_mul k0 (t := s) (by grind)
    have s1 : s ≤ 1 := le_of_mul k0 (by grind)
    have : M = on (on A B t) C s := by
      have can : ∀ u v : Rat, u * side A B C = v * side A B C → u = v := fun u v h => by
        have : (u - v) * side A B C = 0 := by grind
        rcases Rat.mul_eq_zero.1 this with h | h <;> grind
      generalize side A B C = D at *
      generalize side A B M = z at *
      generalize side B C M = x at *
      generalize side C A M = y at *
      have h5 : t * (x + y) = y := ht
      have hs1 : (1 - s) * D = x + y := by grind
      have gx : M.x = (on (on A B t) C s).x := can _ _ (by
        unfold on; simp only
        have : (A.x + t * (B.x - A.x) + s * (C.x - (A.x + t * (B.x - A.x)))) * D = (A.x + t * (B.x - A.x)) * ((1 - s) * D) + C.x * (s * D) := by grind
        rw [this, hs1, hs, bx]
        have : (A.x + t * (B.x - A.x)) * (x + y) = A.x * (x + y) + (B.x - A.x) * (t * (x + y)) := by grind
        rw [this, h5]; grind)
      have gy : M.y = (on (on A B t) C s).y := can _ _ (by
        unfold on; simp only
        have : (A.y + t * (B.y - A.y) + s * (C.y - (A.y + t * (B.y - A.y)))) * D = (A.y + t * (B.y - A.y)) * ((1 - s) * D) + C.y * (s * D) := by grind
        rw [this, hs1, hs, bY]
        have : (A.y + t * (B.y - A.y)) * (x + y) = A.y * (x + y) + (B.y - A.y) * (t * (x + y)) := by grind
        rw [this, h5]; grind)
      cases M; simp only at gx gy; rw [gx, gy]
    rw [this]
    exact .seg _ _ _ s0 s1 (.seg _ _ _ t0 t1 pa pb) pc

theorem touch_rs {S : List Z2} {m : Z2} {r : Int} (h : TouchR S m r) : TouchS S m r := by
  rcases h with ⟨a, ha, b, hb, h⟩ | ⟨a, ha, b, hb, c, hc, h0, h⟩
  · rw [nearZ_iff] at h
    obtain ⟨t, h0, h1, h2⟩ := h
    exact ⟨_, .seg _ _ t h0 h1 (.pt a ha) (.pt b hb), h2⟩
  · refine ⟨toP m, ?_, ?_⟩
    · have e : sideZ a b m + sideZ b c m + sideZ c a m = sideZ a b c := by unfold sideZ; grind
      rcases h with ⟨h1, h2, h3⟩ | ⟨h1, h2, h3⟩
      · exact conv_tri ha hb hc (by omega) h1 h2 h3
      · have s1 : ∀ a b c : Z2, sideZ b a c = - sideZ a b c := fun a b c => by unfold sideZ; grind
        have s2 : ∀ a b c : Z2, sideZ b c a = sideZ a b c := fun a b c => by unfold sideZ; grind
        exact conv_tri hb ha hc (by rw [s1]; omega) (by rw [s1]; omega) (by rw [s1]; omega) (by rw [s1]; omega)
    · have := sqnn (r : Rat)
      unfold dst; grind

/-- The edges of a hull, in a circle. -/
def cyc (H : List Z2) : List (Z2 × Z2) := (List.range H.length).map fun i => (H.getD i (0, 0), H.getD ((i + 1) % H.length) (0, 0))
/-- What the hull's edges say. -/
def touchP (H : List Z2) (m : Z2) (r : Int) : Bool := (cyc H).any (fun e => nearZ e.1 e.2 m r) || (decide (2 < H.length) && (cyc H).all fun e => decide (0 < sideZ e.1 e.2 m))

/-- A way that begins on the left of what is seen from L and ends on its right. -/
theorem fan {L m : Z2} : ∀ (l : List Z2) (u : Z2), 0 < sideZ L u m → (∀ e ∈ List.zip (u :: l) l, 0 < sideZ e.1 e.2 m) → sideZ L ((u :: l).getLast (by simp)) m ≤ 0 → ∃ e ∈ List.zip (u :: l) l, 0 < sideZ L e.1 m ∧ sideZ L e.2 m ≤ 0
  | [], u, h, _, hl => by simp at hl; omega
  | v :: l, u, h, he, hl => by
    by_cases hv : sideZ L v m ≤ 0
    · exact ⟨(u, v), by simp, h, hv⟩
    · obtain ⟨e, h1, h2⟩ := fan (L := L) (m := m) l v (by omega) (fun e h => he e (by simp only [List.zip_cons_cons]; exact List.mem_cons_of_mem _ h)) (by simpa using hl)
      exact ⟨e, by simp only [List.zip_cons_cons]; exact List.mem_cons_of_mem _ h1, h2⟩
end Go.Proofs.Geo

/- The hull of points: sorted, without repetitions, both chains; that it is touched as its points are. -/
namespace Go.Proofs.Geo

/-- Before or equal, by x and then by y. -/
def leZ (a b : Z2) : Bool := decide (a.1 < b.1) || (decide (a.1 = b.1) && decide (a.2 ≤ b.2))
theorem leZ_iff {a b : Z2} : leZ a b = true ↔ a = b ∨ lx 1 a b := by
  obtain ⟨x, y⟩ := a; obtain ⟨u, v⟩ := b
  unfold leZ lx
  simp only [Bool.or_eq_true, Bool.and_eq_true, decide_eq_true_eq, Prod.mk.injEq]; omega
/-- Without repetitions of neighbours. -/
def compactZ : List Z2 → List Z2
  | a :: b :: r => if a = b then compactZ (b :: r) else a :: compactZ (b :: r)
  | l => l
theorem compact_head (a : Z2) : ∀ r : List Z2, ∃ t, compactZ (a :: r) = a :: t
  | [] => ⟨[], rfl⟩
  | b :: r => by
    unfold compactZ
    split
    · rename_i h; subst h; exact compact_head a r
    · exact ⟨_, rfl⟩
theorem compact_mem : ∀ (l : List Z2) (q : Z2), q ∈ compactZ l ↔ q ∈ l
  | [], q => Iff.rfl
  | [a], q => Iff.rfl
  | a :: b :: r, q => by
    unfold compactZ
    split
    · rename_i h; subst h
      rw [compact_mem (a :: r) q]; simp
    · rw [List.mem_cons, compact_mem (b :: r) q, List.mem_cons, List.mem_cons, List.mem_cons]
theorem compact_strict : ∀ {l : List Z2}, l.Pairwise (fun a b => leZ a b = true) → (compactZ l).Pairwise (lx 1)
  | [], _ => .nil
  | [a], _ => by simp [compactZ]
  | a :: b :: r, h => by
    obtain ⟨h1, h2⟩ := List.pairwise_cons.1 h
    unfold compactZ
    split
    · exact compact_strict h2
    · rename_i hne
      refine List.pairwise_cons.2 ⟨fun q hq => ?_, compact_strict h2⟩
      rw [compact_mem] at hq
      have hab : lx 1 a b := by
        rcases leZ_iff.1 (h1 b (List.mem_cons_self ..)) with e | e
        · exact absurd e hne
        · exact e
      rcases List.mem_cons.1 hq with rfl | hq
      · exact hab
      · rcases leZ_iff.1 ((List.pairwise_cons.1 h2).1 q hq) with rfl | e
        · exact hab
        · exact lx_trans (.inl rfl) hab e

/-- The hull of sorted points. -/
def hullS (l : List Z2) : List Z2 := if (compactZ l).length < 3 then compactZ l else (chainZ (compactZ l)).tail.reverse ++ (chainZ (compactZ l).reverse).tail.reverse

def fp : List Z2 → List (Z2 × Z2)
  | a :: b :: r => (a, b) :: fp (b :: r)
  | _ => []
theorem fp_zip : ∀ l : List Z2, fp l = List.zip l l.tail
  | [] => rfl
  | [a] => rfl
  | a :: b :: r => by
    have := fp_zip (b :: r)
    simp only [fp, List.tail_cons, List.zip_cons_cons] at *
    rw [this]
theorem fp_snoc (b c : Z2) : ∀ X : List Z2, fp (X ++ [b, c]) = fp (X ++ [b]) ++ [(b, c)]
  | [] => rfl
  | [x] => rfl
  | x :: y :: X => by
    have := fp_snoc b c (y :: X)
    simp only [List.cons_append, fp] at *
    rw [this]
theorem fp_rev : ∀ C : List Z2, fp C.reverse = (rpairs C).reverse
  | [] => rfl
  | [a] => rfl
  | c :: b :: r => by
    have := fp_rev (b :: r)
    simp only [rpairs, List.reverse_cons, List.append_assoc, List.cons_append, List.nil_append] at *
    rw [fp_snoc, this]
theorem cyc_fp (h : Z2) (t : List Z2) : cyc (h :: t) = fp (h :: (t ++ [h])) := by
  rw [fp_zip]
  unfold cyc
  apply List.ext_getElem
  · simp
  · intro i h1 h2
    simp only [List.length_map, List.length_range, List.length_cons] at h1
    simp only [List.getElem_map, List.getElem_range, List.tail_cons, List.getElem_zip, List.length_cons]
    congr 1
    · rw [List.getD_eq_getElem?_getD]
      rw [List.getElem?_eq_getElem (by simpa using h1)]
      simp only [Option.getD_some]
      cases i with
      | zero => simp
      | succ i => simp only [List.getElem_cons_succ]; rw [List.getElem_append_left (by omega)]
    · rcases Nat.lt_or_ge i t.length with hi | hi
      · rw [Nat.mod_eq_of_lt (by omega), List.getD_eq_getElem?_getD, List.getElem?_eq_getElem (by simp; omega)]
        simp only [Option.getD_some, List.getElem_cons_succ]
        rw [List.getElem_append_left hi]
      · have : i = t.length := by omega
        subst this
        simp

theorem side_flip (a b m : Z2) : sideZ b a m = - sideZ a b m := by unfold sideZ; grind
theorem side_self (a m : Z2) : sideZ a a m = 0 := by unfold sideZ; grind

/-- What the hull's edges say is so of the points. -/
theorem touch_pr {S H : List Z2} {m : Z2} {r : Int} (hS : ∀ q ∈ H, q ∈ S) (h : touchP H m r = true) : TouchR S m r := by
  unfold touchP at h
  rw [Bool.or_eq_true, List.any_eq_true, Bool.and_eq_true, List.all_eq_true] at h
  have hm : ∀ e ∈ cyc H, e.1 ∈ S ∧ e.2 ∈ S := fun e he => by
    unfold cyc at he
    obtain ⟨i, hi, rfl⟩ := List.mem_map.1 he
    have hi := List.mem_range.1 hi
    have hmod : (i + 1) % H.length < H.length := Nat.mod_lt _ (by omega)
    constructor
    · simp only [List.getD_eq_getElem?_getD, List.getElem?_eq_getElem hi, Option.getD_some]; exact hS _ (List.getElem_mem hi)
    · simp only [List.getD_eq_getElem?_getD, List.getElem?_eq_getElem hmod, Option.getD_some]; exact hS _ (List.getElem_mem hmod)
  rcases h with ⟨e, he, h⟩ | ⟨h3, hall⟩
  · exact .inl ⟨e.1, (hm e he).1, e.2, (hm e he).2, h⟩
  · right
    have h3 : 2 < H.length := of_decide_eq_true h3
    match H, h3, hm, hall with
    | L :: u :: l, _, hm, hall =>
      have hall : ∀ e ∈ cyc (L :: u :: l), 0 < sideZ e.1 e.2 m := fun e he => of_decide_eq_true (hall e he)
      rw [cyc_fp] at hall hm
      have hz : fp (L :: (u :: l ++ [L])) = (L, u) :: List.zip (u :: l ++ [L]) (l ++ [L]) := by rw [fp_zip]; simp
      rw [hz] at hall hm
      have g0 := hall _ (List.mem_cons_self ..)
      obtain ⟨e, he, g1, g2⟩ := fan (L := L) (m := m) (l ++ [L]) u g0 (fun e he => hall e (List.mem_cons_of_mem _ he)) (by
        have : ∀ h, (u :: (l ++ [L])).getLast h = L := fun h => List.getLast_concat (l := u :: l) (a := L)
        rw [this, side_self]; omega)
      have he' : e ∈ (L, u) :: List.zip (u :: l ++ [L]) (l ++ [L]) := List.mem_cons_of_mem _ he
      have g3 := hall e he'
      have hS1 := hm e he'
      have hSL := (hm (L, u) (List.mem_cons_self ..)).1
      refine ⟨L, hSL, e.1, hS1.1, e.2, hS1.2, ?_, .inl ⟨by omega, by omega, ?_⟩⟩
      · have e0 : sideZ L e.1 m + sideZ e.1 e.2 m + sideZ e.2 L m = sideZ L e.1 e.2 := by unfold sideZ; grind
        have := side_flip L e.2 m
        omega
      · have := side_flip L e.2 m
        omega

theorem on_seg {a b q : Z2} (hs : sideZ a b q = 0) (h1 : q = a ∨ lx 1 a q) (h2 : q = b ∨ lx 1 q b) (hab : lx 1 a b) : ∃ t : Rat, 0 ≤ t ∧ t ≤ 1 ∧ toP q = on (toP a) (toP b) t := by
  have hs' : side (toP a) (toP b) (toP q) = 0 := by rw [side_cast, hs]; rfl
  unfold side toP at hs'
  simp only at hs'
  have hq : (q.1 : Rat) = a.1 ∨ (q.1 : Rat) ≠ a.1 := by grind
  rcases Int.lt_or_le a.1 b.1 with h | h
  · have k : (0 : Rat) < (b.1 : Rat) - a.1 := by have := cast_lt.2 h; grind
    have l1 : a.1 ≤ q.1 := by unfold lx at h1; rcases h1 with rfl | h1 <;> omega
    have l2 : q.1 ≤ b.1 := by unfold lx at h2; rcases h2 with rfl | h2 <;> omega
    have l1 := cast_le.2 l1
    have l2 := cast_le.2 l2
    obtain ⟨t, ht⟩ := div_ex (n := (q.1 : Rat) - a.1) (d := (b.1 : Rat) - a.1) (by grind)
    refine ⟨t, pos_of_mul k (by grind), le_of_mul k (by grind), ?_⟩
    unfold toP on
    simp only [Pt.mk.injEq]
    refine ⟨by grind, ?_⟩
    have : ((q.2 : Rat) - (a.2 + t * (b.2 - a.2))) * ((b.1 : Rat) - a.1) = 0 := by grind
    rcases Rat.mul_eq_zero.1 this with e | e <;> grind
  · have hx : b.1 = a.1 := by unfold lx at hab; omega
    have hy : a.2 < b.2 := by unfold lx at hab; omega
    have hq1 : q.1 = a.1 := by unfold lx at h1 h2; rcases h1 with rfl | h1 <;> rcases h2 with rfl | h2 <;> omega
    have l1 : a.2 ≤ q.2 := by unfold lx at h1; rcases h1 with rfl | h1 <;> omega
    have l2 : q.2 ≤ b.2 := by unfold lx at h2; rcases h2 with rfl | h2 <;> omega
    have l1 := cast_le.2 l1
    have l2 := cast_le.2 l2
    have k : (0 : Rat) < (b.2 : Rat) - a.2 := by have := cast_lt.2 hy; grind
    obtain ⟨t, ht⟩ := div_ex (n := (q.2 : Rat) - a.2) (d := (b.2 : Rat) - a.2) (by grind)
    refine ⟨t, pos_of_mul k (by grind), le_of_mul k (by grind), ?_⟩
    unfold toP on
    simp only [Pt.mk.injEq]
    rw [hx, hq1]
    constructor <;> grind

theorem conv_seg {S : List Z2} {a b : Z2} (h : ∀ q ∈ S, ∃ t : Rat, 0 ≤ t ∧ t ≤ 1 ∧ toP q = on (toP a) (toP b) t) {x : Pt} (hx : Conv S x) : ∃ t : Rat, 0 ≤ t ∧ t ≤ 1 ∧ x = on (toP a) (toP b) t := by
  induction hx with
  | pt p hp => exact h p hp
  | seg c d t h0 h1 _ _ hc hd =>
    obtain ⟨u, u0, u1, rfl⟩ := hc
    obtain ⟨v, v0, v1, rfl⟩ := hd
    refine ⟨u + t * (v - u), ?_, ?_, ?_⟩
    · have := mulnn h0 v0
      have := mulnn (show 0 ≤ 1 - t by grind) u0
      grind
    · have := mulnn h0 (show 0 ≤ 1 - v by grind)
      have := mulnn (show 0 ≤ 1 - t by grind) (show 0 ≤ 1 - u by grind)
      grind
    · unfold on; simp only [Pt.mk.injEq]; constructor <;> grind

theorem irr {s : Int} {p : Z2} (h : lx s p p) : False := by
  unfold lx at h
  have h1 : s * (p.1 - p.1) = 0 := by rw [Int.sub_self, Int.mul_zero]
  have h2 : s * (p.2 - p.2) = 0 := by rw [Int.sub_self, Int.mul_zero]
  omega
/-- What the hull of sorted points is. -/
theorem hull_cases {l : List Z2} (hl : l ≠ []) (hs : l.Pairwise (fun a b => leZ a b = true)) :
    (∀ q ∈ hullS l, q ∈ l) ∧
    ((∃ a, hullS l = [a] ∧ ∀ q ∈ l, q = a) ∨
     (∃ a b, hullS l = [a, b] ∧ ∀ q ∈ l, ∃ t : Rat, 0 ≤ t ∧ t ≤ 1 ∧ toP q = on (toP a) (toP b) t) ∨
     (2 < (hullS l).length ∧ (∀ e ∈ cyc (hullS l), ∃ d, (e.2, d) ∈ cyc (hullS l) ∧ 0 < sideZ e.1 e.2 d) ∧ (∀ e ∈ cyc (hullS l), ∃ z, (z, e.1) ∈ cyc (hullS l) ∧ 0 < sideZ z e.1 e.2) ∧
      (∀ e ∈ cyc (hullS l), ∀ q ∈ l, 0 ≤ sideZ e.1 e.2 q))) := by
  have hmem := compact_mem l
  have hst := compact_strict hs
  unfold hullS
  have hne : compactZ l ≠ [] := fun e => by
    cases l with
    | nil => exact hl rfl
    | cons a r => obtain ⟨t, ht⟩ := compact_head a r; rw [e] at ht; cases ht
  generalize compactZ l = k at *
  split
  · rename_i h3
    refine ⟨fun q hq => (hmem q).1 hq, ?_⟩
    match k, h3, hne with
    | [a], _, _ => exact .inl ⟨a, rfl, fun q hq => by simpa using (hmem q).2 hq⟩
    | [a, b], _, _ =>
      refine .inr (.inl ⟨a, b, rfl, fun q hq => ?_⟩)
      have := (hmem q).2 hq
      simp only [List.mem_cons, List.not_mem_nil, or_false] at this
      rcases this with rfl | rfl
      · exact ⟨0, by grind, by grind, by unfold on toP; simp only [Pt.mk.injEq]; constructor <;> grind⟩
      · exact ⟨1, by grind, by grind, by unfold on toP; simp only [Pt.mk.injEq]; constructor <;> grind⟩
  · rename_i h3
    have hrev : k.reverse.Pairwise (lx (-1)) := by
      rw [List.pairwise_reverse]
      exact hst.imp fun h => lx_flip h
    obtain ⟨a, k1, rfl⟩ : ∃ a r, k = a :: r := by cases k with | nil => exact absurd rfl hne | cons a r => exact ⟨a, r, rfl⟩
    have hrne : (a :: k1).reverse ≠ [] := by simp
    obtain ⟨z, k2, hz⟩ : ∃ z r, (a :: k1).reverse = z :: r := by cases h : (a :: k1).reverse with | nil => exact absurd h hrne | cons a r => exact ⟨a, r, rfl⟩
    obtain ⟨R, r1, c1, ch1, top1⟩ := chain_ch (.inl rfl) hst
    rw [hz] at hrev
    obtain ⟨L, r2, c2, ch2, top2⟩ := chain_ch (.inr rfl) hrev
    rw [hz, c1, c2]
    have ch2 : Ch (-1) (a :: k1) (L :: r2) := ch2.congr fun q => by rw [← hz]; simp [or_comm]
    have top2 : ∀ q ∈ a :: k1, q = L ∨ lx (-1) q L := fun q hq => top2 q (by rw [← hz]; simpa [or_comm] using hq)
    -- the last points
    obtain ⟨l1, L', e1, mL', bot1⟩ := ch1.last
    obtain ⟨l2, R', e2, mR', bot2⟩ := ch2.last
    have asym : ∀ {p q : Z2}, lx 1 p q → lx 1 q p → False := fun h h' => irr (lx_trans (.inl rfl) h h')
    have hLL : L' = L := by
      rcases top2 L' mL' with e | e
      · exact e
      · have e := lx_flip e
        rcases bot1 L ch2.mem with e' | e'
        · exact e'.symm
        · exact (asym e (by simpa using e')).elim
    have hRR : R' = R := by
      rcases top1 R' mR' with e | e
      · exact e
      · rcases bot2 R ch1.mem with e' | e'
        · exact e'.symm
        · exact (asym e (by have := lx_flip e'; simpa using this)).elim
    subst hLL; subst hRR
    have hne2 : L' ≠ R' := fun e => by
      subst e
      -- all points equal: but three different ones
      have all : ∀ q ∈ a :: k1, q = L' := fun q hq => by
        rcases top1 q hq with e | e
        · exact e
        · rcases bot1 q hq with e' | e'
          · exact e'
          · exact (asym e e').elim
      match k1, h3, hst with
      | [], h3, _ => simp at h3
      | b :: _, _, hst =>
        have := (List.pairwise_cons.1 hst).1 b (by simp)
        rw [all a (by simp), all b (by simp)] at this
        exact irr this
    have hm1 : ∀ q ∈ R' :: r1, q ∈ a :: k1 := ch1.all_mem
    have hm2 : ∀ q ∈ L' :: r2, q ∈ a :: k1 := ch2.all_mem
    refine ⟨fun q hq => (hmem q).1 ?_, ?_⟩
    · simp only [List.tail_cons, List.mem_append, List.mem_reverse] at hq
      rcases hq with hq | hq
      · exact hm1 q (List.mem_cons_of_mem _ hq)
      · exact hm2 q (List.mem_cons_of_mem _ hq)
    -- the way round
    have hr1 : ∃ r, r1 = r ++ [L'] := by
      cases l1 with
      | nil => simp at e1; exact absurd e1.1.symm hne2
      | cons x t => simp at e1; exact ⟨t, e1.2⟩
    obtain ⟨r, hr⟩ := hr1
    have hH : r1.reverse ++ r2.reverse = L' :: (r.reverse ++ r2.reverse) := by rw [hr]; simp
    have hC : (L' :: r2 ++ r1).reverse = L' :: (r.reverse ++ r2.reverse ++ [L']) := by rw [hr]; simp
    have hcyc : cyc (r1.reverse ++ r2.reverse) = (rpairs (L' :: r2 ++ r1)).reverse := by
      rw [hH, cyc_fp, ← fp_rev, hC]
    simp only [List.tail_cons]
    by_cases hlen : 3 ≤ r1.length + r2.length
    · obtain ⟨p1, p2, p3⟩ := hull_poly ch1 ch2 rfl rfl ⟨l1, e1⟩ ⟨l2, e2⟩ hne2 hlen
      refine .inr (.inr ⟨by simp; omega, ?_⟩)
      rw [hcyc]
      simp only [List.mem_reverse]
      exact ⟨p1, p2, fun e he q hq => p3 e he q ((hmem q).2 hq)⟩
    · right; left
      have g1 : 1 ≤ r1.length := by rw [hr]; simp
      have hr2 : ∃ t, r2 = t ++ [R'] := by
        cases l2 with
        | nil => simp at e2; exact absurd e2.1 hne2
        | cons x t => simp at e2; exact ⟨t, e2.2⟩
      obtain ⟨t, ht⟩ := hr2
      have g2 : 1 ≤ r2.length := by rw [ht]; simp
      have q1 : r = [] := List.eq_nil_of_length_eq_zero (by rw [hr] at hlen; rw [ht] at hlen; simp at hlen; omega)
      have q2 : t = [] := List.eq_nil_of_length_eq_zero (by rw [hr] at hlen; rw [ht] at hlen; simp at hlen; omega)
      subst q1; subst q2
      simp only [List.nil_append] at hr ht
      subst hr; subst ht
      refine ⟨L', R', by simp, fun q hq => ?_⟩
      have hq := (hmem q).2 hq
      have s1 := ch1.2.2.1 q hq
      have s2 := ch2.2.2.1 q hq
      have := side_flip L' R' q
      refine on_seg (by omega) (bot1 q hq) ?_ ch1.2.1
      rcases top1 q hq with e | e
      · exact .inl e
      · exact .inr e

theorem hull_ne {l : List Z2} (hl : l ≠ []) (hs : l.Pairwise (fun a b => leZ a b = true)) : hullS l ≠ [] := by
  obtain ⟨_, ⟨a, h, _⟩ | ⟨a, b, h, _⟩ | ⟨h, _⟩⟩ := hull_cases hl hs
  · rw [h]; simp
  · rw [h]; simp
  · intro e; rw [e] at h; simp at h

/-- What is so of points between the points, the hull's edges say. -/
theorem touch_sp {l : List Z2} (hl : l ≠ []) (hs : l.Pairwise (fun a b => leZ a b = true)) {m : Z2} {r : Int} (h : TouchS l m r) : touchP (hullS l) m r = true := by
  obtain ⟨x, hx, hd⟩ := h
  unfold touchP
  rw [Bool.or_eq_true, List.any_eq_true, Bool.and_eq_true, List.all_eq_true]
  obtain ⟨_, ⟨a, h, hall⟩ | ⟨a, b, h, hall⟩ | ⟨h3, p1, p2, p3⟩⟩ := hull_cases hl hs
  · left
    rw [h]
    refine ⟨(a, a), by simp [cyc], ?_⟩
    rw [nearZ_iff]
    obtain ⟨t, t0, t1, rfl⟩ := conv_seg (a := a) (b := a) (fun q hq => ⟨0, by grind, by grind, by rw [hall q hq]; unfold on; cases toP a; simp only [Pt.mk.injEq]; constructor <;> grind⟩) hx
    exact ⟨t, t0, t1, hd⟩
  · left
    rw [h]
    refine ⟨(a, b), by rw [cyc_fp]; simp [fp], ?_⟩
    rw [nearZ_iff]
    obtain ⟨t, t0, t1, rfl⟩ := conv_seg hall hx
    exact ⟨t, t0, t1, hd⟩
  · by_cases hin : ∀ e ∈ cyc (hullS l), decide (0 < sideZ e.1 e.2 m) = true
    · exact .inr ⟨decide_eq_true h3, hin⟩
    · left
      have : ∃ e ∈ cyc (hullS l), sideZ e.1 e.2 m ≤ 0 := by
        by_cases hh : ∃ e ∈ cyc (hullS l), sideZ e.1 e.2 m ≤ 0
        · exact hh
        · exact absurd (fun e he => decide_eq_true (by by_cases g : 0 < sideZ e.1 e.2 m; exact g; exact absurd ⟨e, he, by omega⟩ hh)) hin
      obtain ⟨e, he, hm⟩ := this
      let E := (cyc (hullS l)).map fun e => (toP e.1, toP e.2)
      have hE : Poly E := by
        refine ⟨fun f hf => ?_, fun f hf => ?_⟩
        · obtain ⟨e, he, rfl⟩ := List.mem_map.1 hf
          obtain ⟨d, h1, h2⟩ := p1 e he
          exact ⟨toP d, List.mem_map.2 ⟨_, h1, rfl⟩, by simp only [side_cast]; exact cast_pos.2 h2⟩
        · obtain ⟨e, he, rfl⟩ := List.mem_map.1 hf
          obtain ⟨d, h1, h2⟩ := p2 e he
          exact ⟨toP d, List.mem_map.2 ⟨_, h1, rfl⟩, by simp only [side_cast]; exact cast_pos.2 h2⟩
      obtain ⟨f, hf, hn⟩ := hE.exit (x := x) (m := toP m) (fun f hf => by
        obtain ⟨e, he, rfl⟩ := List.mem_map.1 hf
        exact hx.left (p3 e he)) ⟨(toP e.1, toP e.2), List.mem_map.2 ⟨e, he, rfl⟩, by simp only [side_cast]; exact cast_np.2 hm⟩ hd
      obtain ⟨g, hg, rfl⟩ := List.mem_map.1 hf
      exact ⟨g, hg, by rw [nearZ_iff]; exact hn⟩
end Go.Proofs.Geo

/- Shadows: the places on the ways from a lamp to the points of a patch; no program here. -/
namespace Go.Proofs.Geo

/-- What throws a shadow: the lamp's place and height, which part of the ways, the crown's axis and radius. -/
structure Cast where
  cx : Int
  cy : Int
  h : Int
  n0 : Int
  n1 : Int
  mx : Int
  my : Int
  r : Int
/-- The place at n / h of the way from the lamp to a point, times h. -/
def atZ (c : Cast) (p : Z2) (n : Int) : Z2 := (c.h * c.cx + n * (p.1 - c.cx), c.h * c.cy + n * (p.2 - c.cy))
def atR (c : Cast) (p : Pt) (s : Rat) : Pt := ⟨c.h * c.cx + s * (p.x - c.cx), c.h * c.cy + s * (p.y - c.cy)⟩
theorem at_cast (c : Cast) (p : Z2) (n : Int) : toP (atZ c p n) = atR c (toP p) n := by
  unfold toP atZ atR
  simp only [Rat.intCast_sub, Rat.intCast_mul, Rat.intCast_add]
theorem at_on (c : Cast) (p : Pt) (a b t : Rat) : on (atR c p a) (atR c p b) t = atR c p (a + t * (b - a)) := by
  unfold on atR; simp only [Pt.mk.injEq]; constructor <;> grind
theorem at_on2 (c : Cast) (p q : Pt) (a t : Rat) : on (atR c p a) (atR c q a) t = atR c (on p q t) a := by
  unfold on atR; simp only [Pt.mk.injEq]; constructor <;> grind

/-- A point is shaded. -/
def ShadP (c : Cast) (p : Pt) : Prop := ∃ s : Rat, (c.n0 : Rat) ≤ s ∧ s ≤ (c.n1 : Rat) ∧ dst (atR c p s) ⟨c.mx, c.my⟩ ≤ (c.r : Rat) * (c.r : Rat)

theorem shaded_iff (c : Cast) (hn : c.n0 ≤ c.n1) (p : Z2) : nearZ (atZ c p c.n0) (atZ c p c.n1) (c.mx, c.my) c.r = true ↔ ShadP c (toP p) := by
  rw [nearZ_iff]
  simp only [at_cast]
  have hn' := cast_le.2 hn
  constructor
  · rintro ⟨t, h0, h1, h2⟩
    rw [at_on] at h2
    refine ⟨_, ?_, ?_, h2⟩
    · have := mulnn h0 (show 0 ≤ (c.n1 : Rat) - c.n0 by grind)
      grind
    · have := mulnn (show 0 ≤ 1 - t by grind) (show 0 ≤ (c.n1 : Rat) - c.n0 by grind)
      grind
  · rintro ⟨s, h0, h1, h2⟩
    by_cases e : (c.n1 : Rat) = c.n0
    · refine ⟨0, by grind, by grind, ?_⟩
      rw [at_on]
      have : (c.n0 : Rat) + 0 * ((c.n1 : Rat) - c.n0) = s := by grind
      rw [this]; exact h2
    · have hd : 0 < (c.n1 : Rat) - c.n0 := by grind
      obtain ⟨t, ht⟩ := div_ex (n := s - c.n0) (d := (c.n1 : Rat) - c.n0) (by grind)
      refine ⟨t, pos_of_mul hd (by grind), le_of_mul hd (by grind), ?_⟩
      rw [at_on]
      have : (c.n0 : Rat) + t * ((c.n1 : Rat) - c.n0) = s := by grind
      rw [this]; exact h2

/-- A box of points. -/
structure Box where
  x0 : Int
  y0 : Int
  x1 : Int
  y1 : Int
def Box.ok (b : Box) : Prop := b.x0 ≤ b.x1 ∧ b.y0 ≤ b.y1
def InBox (b : Box) (p : Pt) : Prop := (b.x0 : Rat) ≤ p.x ∧ p.x ≤ b.x1 ∧ (b.y0 : Rat) ≤ p.y ∧ p.y ≤ b.y1
def cornersZ (b : Box) : List Z2 := [(b.x0, b.y0), (b.x1, b.y0), (b.x1, b.y1), (b.x0, b.y1)]
theorem corner_in {b : Box} (hb : b.ok) {p : Z2} (h : p ∈ cornersZ b) : InBox b (toP p) := by
  obtain ⟨h1, h2⟩ := hb
  have h1 := cast_le.2 h1
  have h2 := cast_le.2 h2
  simp only [cornersZ, List.mem_cons, List.not_mem_nil, or_false] at h
  unfold InBox toP
  rcases h with rfl | rfl | rfl | rfl <;> simp only <;> grind
theorem inBox_on {b : Box} {p q : Pt} {t : Rat} (h0 : 0 ≤ t) (h1 : t ≤ 1) (hp : InBox b p) (hq : InBox b q) : InBox b (on p q t) := by
  obtain ⟨a1, a2, a3, a4⟩ := hp
  obtain ⟨b1, b2, b3, b4⟩ := hq
  have lo : ∀ l x y : Rat, l ≤ x → l ≤ y → l ≤ x + t * (y - x) := fun l x y hx hy => by
    have := mulnn h0 (show 0 ≤ y - l by grind)
    have := mulnn (show 0 ≤ 1 - t by grind) (show 0 ≤ x - l by grind)
    grind
  have hi : ∀ l x y : Rat, x ≤ l → y ≤ l → x + t * (y - x) ≤ l := fun l x y hx hy => by
    have := mulnn h0 (show 0 ≤ l - y by grind)
    have := mulnn (show 0 ≤ 1 - t by grind) (show 0 ≤ l - x by grind)
    grind
  exact ⟨lo _ _ _ a1 b1, hi _ _ _ a2 b2, lo _ _ _ a3 b3, hi _ _ _ a4 b4⟩
theorem param {a b x : Rat} (h1 : a ≤ x) (h2 : x ≤ b) : ∃ t : Rat, 0 ≤ t ∧ t ≤ 1 ∧ x = a + t * (b - a) := by
  by_cases e : a = b
  · exact ⟨0, by grind, by grind, by grind⟩
  · have hd : 0 < b - a := by grind
    obtain ⟨t, ht⟩ := div_ex (n := x - a) (d := b - a) (by grind)
    exact ⟨t, pos_of_mul hd (by grind), le_of_mul hd (by grind), by grind⟩
/-- A point of a box lies between the corners. -/
theorem box_corners {b : Box} {p : Pt} (h : InBox b p) : ∃ s t : Rat, 0 ≤ s ∧ s ≤ 1 ∧ 0 ≤ t ∧ t ≤ 1 ∧ p = on (on (toP (b.x0, b.y0)) (toP (b.x1, b.y0)) s) (on (toP (b.x0, b.y1)) (toP (b.x1, b.y1)) s) t := by
  obtain ⟨a1, a2, a3, a4⟩ := h
  obtain ⟨s, s0, s1, hs⟩ := param a1 a2
  obtain ⟨t, t0, t1, ht⟩ := param a3 a4
  refine ⟨s, t, s0, s1, t0, t1, ?_⟩
  cases p
  unfold on toP
  simp only at *
  simp only [Pt.mk.injEq]
  constructor <;> grind

/-- What is convex and has a box's corners has its points. -/
theorem box_convex {b : Box} {Q : Pt → Prop} (hQ : ∀ p q t, 0 ≤ t → t ≤ 1 → Q p → Q q → Q (on p q t)) (hc : ∀ p ∈ cornersZ b, Q (toP p)) {p : Pt} (h : InBox b p) : Q p := by
  obtain ⟨s, t, s0, s1, t0, t1, rfl⟩ := box_corners h
  refine hQ _ _ t t0 t1 (hQ _ _ s s0 s1 (hc _ ?_) (hc _ ?_)) (hQ _ _ s s0 s1 (hc _ ?_) (hc _ ?_)) <;> simp [cornersZ]

/-- The corners of a patch, seen at both ends of the ways. -/
def eight (c : Cast) (b : Box) : List Z2 := (cornersZ b).flatMap fun p => [atZ c p c.n0, atZ c p c.n1]

theorem eight_conv {c : Cast} {b : Box} (hn : c.n0 ≤ c.n1) {p : Pt} (hp : InBox b p) {s : Rat} (h0 : (c.n0 : Rat) ≤ s) (h1 : s ≤ c.n1) : Conv (eight c b) (atR c p s) := by
  have end0 : Conv (eight c b) (atR c p c.n0) := box_convex (Q := fun p => Conv (eight c b) (atR c p c.n0))
    (fun p q t t0 t1 hp hq => by rw [← at_on2]; exact .seg _ _ t t0 t1 hp hq)
    (fun q hq => by rw [← at_cast]; exact .pt _ (List.mem_flatMap.2 ⟨q, hq, by simp⟩)) hp
  have end1 : Conv (eight c b) (atR c p c.n1) := box_convex (Q := fun p => Conv (eight c b) (atR c p c.n1))
    (fun p q t t0 t1 hp hq => by rw [← at_on2]; exact .seg _ _ t t0 t1 hp hq)
    (fun q hq => by rw [← at_cast]; exact .pt _ (List.mem_flatMap.2 ⟨q, hq, by simp⟩)) hp
  obtain ⟨t, t0, t1, rfl⟩ := param h0 h1
  rw [← at_on]
  exact .seg _ _ t t0 t1 end0 end1

theorem mul_zero_or {a b : Rat} (h : a * b = 0) : a = 0 ∨ b = 0 := Rat.mul_eq_zero.1 h

theorem conv_eight {c : Cast} {b : Box} (hb : b.ok) (h0 : 0 ≤ c.n0) (hn : c.n0 ≤ c.n1) {x : Pt} (hx : Conv (eight c b) x) : ∃ p s, InBox b p ∧ (c.n0 : Rat) ≤ s ∧ s ≤ c.n1 ∧ x = atR c p s := by
  have hn' := cast_le.2 hn
  have h0' := cast_nn.2 h0
  induction hx with
  | pt q hq =>
    obtain ⟨p, hp, hq⟩ := List.mem_flatMap.1 hq
    simp only [List.mem_cons, List.not_mem_nil, or_false] at hq
    rcases hq with rfl | rfl
    · exact ⟨toP p, c.n0, corner_in hb hp, by grind, hn', at_cast ..⟩
    · exact ⟨toP p, c.n1, corner_in hb hp, hn', by grind, at_cast ..⟩
  | seg u v t t0 t1 _ _ hu hv =>
    obtain ⟨p, s, hp, s0, s1, rfl⟩ := hu
    obtain ⟨q, z, hq, z0, z1, rfl⟩ := hv
    have w1 := mulnn (show 0 ≤ 1 - t by grind) (show 0 ≤ s by grind)
    have w2 := mulnn t0 (show 0 ≤ z by grind)
    have lo : (c.n0 : Rat) ≤ s + t * (z - s) := by
      have := mulnn t0 (show 0 ≤ z - c.n0 by grind)
      have := mulnn (show 0 ≤ 1 - t by grind) (show 0 ≤ s - c.n0 by grind)
      grind
    have hi : s + t * (z - s) ≤ c.n1 := by
      have := mulnn t0 (show 0 ≤ (c.n1 : Rat) - z by grind)
      have := mulnn (show 0 ≤ 1 - t by grind) (show 0 ≤ (c.n1 : Rat) - s by grind)
      grind
    by_cases e : s + t * (z - s) = 0
    · refine ⟨p, _, hp, lo, hi, ?_⟩
      have e1 : (1 - t) * s = 0 := by grind
      have e2 : t * z = 0 := by grind
      rw [e]
      unfold on atR
      simp only [Pt.mk.injEq]
      constructor
      · have : c.h * c.cx + s * (p.x - c.cx) + t * (c.h * c.cx + z * (q.x - c.cx) - (c.h * c.cx + s * (p.x - c.cx))) = c.h * c.cx + ((1 - t) * s) * (p.x - c.cx) + (t * z) * (q.x - c.cx) := by grind
        rw [this, e1, e2]; grind
      · have : c.h * c.cy + s * (p.y - c.cy) + t * (c.h * c.cy + z * (q.y - c.cy) - (c.h * c.cy + s * (p.y - c.cy))) = c.h * c.cy + ((1 - t) * s) * (p.y - c.cy) + (t * z) * (q.y - c.cy) := by grind
        rw [this, e1, e2]; grind
    · have hpos : 0 < s + t * (z - s) := by grind
      obtain ⟨v, hv⟩ := div_ex (n := t * z) (d := s + t * (z - s)) e
      have v0 := pos_of_mul hpos (t := v) (by grind)
      have v1 : v ≤ 1 := le_of_mul hpos (by grind)
      refine ⟨on p q v, _, inBox_on v0 v1 hp hq, lo, hi, ?_⟩
      unfold on atR
      simp only [Pt.mk.injEq]
      constructor
      · have : c.h * c.cx + (s + t * (z - s)) * (p.x + v * (q.x - p.x) - c.cx) = c.h * c.cx + (s + t * (z - s)) * (p.x - c.cx) + (v * (s + t * (z - s))) * (q.x - p.x) := by grind
        rw [this, hv]; grind
      · have : c.h * c.cy + (s + t * (z - s)) * (p.y + v * (q.y - p.y) - c.cy) = c.h * c.cy + (s + t * (z - s)) * (p.y - c.cy) + (v * (s + t * (z - s))) * (q.y - p.y) := by grind
        rw [this, hv]; grind

/-- A patch is touched by a shadow exactly if a point of it is shaded. -/
theorem touch_iff {c : Cast} {b : Box} (hb : b.ok) (h0 : 0 ≤ c.n0) (hn : c.n0 ≤ c.n1) : TouchS (eight c b) (c.mx, c.my) c.r ↔ ∃ p, InBox b p ∧ ShadP c p := by
  constructor
  · rintro ⟨x, hx, hd⟩
    obtain ⟨p, s, hp, s0, s1, rfl⟩ := conv_eight hb h0 hn hx
    exact ⟨p, hp, s, s0, s1, hd⟩
  · rintro ⟨p, hp, s, s0, s1, hd⟩
    exact ⟨_, eight_conv hn hp s0 s1, hd⟩

theorem dst_conv {a b m : Pt} {t q : Rat} (h0 : 0 ≤ t) (h1 : t ≤ 1) (ha : dst a m ≤ q) (hb : dst b m ≤ q) : dst (on a b t) m ≤ q := by
  have e : dst (on a b t) m = (1 - t) * dst a m + t * dst b m - t * (1 - t) * dst a b := by unfold dst on; grind
  have e1 := mulnn (show 0 ≤ 1 - t by grind) (show 0 ≤ q - dst a m by grind)
  have e2 := mulnn h0 (show 0 ≤ q - dst b m by grind)
  have e3 := mulnn (mulnn h0 (show 0 ≤ 1 - t by grind)) (dst_nn a b)
  grind

/-- A shadow is convex. -/
theorem shad_convex {c : Cast} (h0 : 0 ≤ c.n0) {p q : Pt} {t : Rat} (t0 : 0 ≤ t) (t1 : t ≤ 1) (hp : ShadP c p) (hq : ShadP c q) : ShadP c (on p q t) := by
  obtain ⟨s, s0, s1, hs⟩ := hp
  obtain ⟨z, z0, z1, hz⟩ := hq
  have h0' := cast_nn.2 h0
  have zero : ∀ p : Pt, atR c p 0 = ⟨c.h * c.cx, c.h * c.cy⟩ := fun p => by unfold atR; simp only [Pt.mk.injEq]; constructor <;> grind
  by_cases es : s = 0
  · subst es
    refine ⟨0, s0, s1, ?_⟩
    rw [zero]; rw [zero] at hs; exact hs
  by_cases ez : z = 0
  · subst ez
    refine ⟨0, z0, z1, ?_⟩
    rw [zero]; rw [zero] at hz; exact hz
  have sp : 0 < s := by grind
  have zp : 0 < z := by grind
  -- s z / ((1 - t) z + t s) is between them
  have dpos : 0 < (1 - t) * z + t * s := by
    have a1 := mulnn (show 0 ≤ 1 - t by grind) (show 0 ≤ z by grind)
    have a2 := mulnn t0 (show 0 ≤ s by grind)
    by_cases e : t = 0
    · subst e; grind
    · have := Rat.mul_pos (show 0 < t by grind) sp
      grind
  obtain ⟨u, hu⟩ := div_ex (n := s * z) (d := (1 - t) * z + t * s) (by grind)
  obtain ⟨v, hv⟩ := div_ex (n := t * s) (d := (1 - t) * z + t * s) (by grind)
  have v0 : 0 ≤ v := pos_of_mul dpos (by have := mulnn t0 (show 0 ≤ s by grind); grind)
  have v1 : v ≤ 1 := le_of_mul dpos (by have := mulnn (show 0 ≤ 1 - t by grind) (show 0 ≤ z by grind); grind)
  have can : ∀ a b : Rat, a * ((1 - t) * z + t * s) = b * ((1 - t) * z + t * s) → a = b := fun a b h => by
    have : (a - b) * ((1 - t) * z + t * s) = 0 := by grind
    rcases mul_zero_or this with h | h <;> grind
  have eu : u = (1 - v) * s + v * z := can _ _ (by
    have : ((1 - v) * s + v * z) * ((1 - t) * z + t * s) = s * ((1 - t) * z + t * s) + (z - s) * (v * ((1 - t) * z + t * s)) := by grind
    rw [this, hu, hv]; grind)
  have e1 : u * (1 - t) = (1 - v) * s := can _ _ (by
    have h1 : u * (1 - t) * ((1 - t) * z + t * s) = (1 - t) * (u * ((1 - t) * z + t * s)) := by grind
    have h2 : (1 - v) * s * ((1 - t) * z + t * s) = s * ((1 - t) * z + t * s) - s * (v * ((1 - t) * z + t * s)) := by grind
    rw [h1, h2, hu, hv]; grind)
  have e2 : u * t = v * z := by grind
  refine ⟨u, ?_, ?_, ?_⟩
  · have := mulnn v0 (show 0 ≤ z - c.n0 by grind)
    have := mulnn (show 0 ≤ 1 - v by grind) (show 0 ≤ s - c.n0 by grind)
    grind
  · have := mulnn v0 (show 0 ≤ (c.n1 : Rat) - z by grind)
    have := mulnn (show 0 ≤ 1 - v by grind) (show 0 ≤ (c.n1 : Rat) - s by grind)
    grind
  · have : atR c (on p q t) u = on (atR c p s) (atR c q z) v := by
      unfold atR on
      simp only [Pt.mk.injEq]
      constructor
      · have : u * (p.x + t * (q.x - p.x) - c.cx) = (u * (1 - t)) * (p.x - c.cx) + (u * t) * (q.x - c.cx) := by grind
        rw [this, e1, e2]; grind
      · have : u * (p.y + t * (q.y - p.y) - c.cy) = (u * (1 - t)) * (p.y - c.cy) + (u * t) * (q.y - c.cy) := by grind
        rw [this, e1, e2]; grind
    rw [this]
    exact dst_conv v0 v1 hs hz
end Go.Proofs.Geo

/- Strips and patches: when a strip has a point of a patch; no program here. -/
namespace Go.Proofs.Geo

/-- Two straight lines with points near each other: they meet, or an end of one is as near to the other. -/
theorem seg_seg {a b c d : Pt} {q s t : Rat} (hab : ¬ (b.x = a.x ∧ b.y = a.y)) (s0 : 0 ≤ s) (s1 : s ≤ 1) (t0 : 0 ≤ t) (t1 : t ≤ 1) (hd : dst (on a b s) (on c d t) ≤ q) :
    (∃ u v : Rat, 0 ≤ u ∧ u ≤ 1 ∧ 0 ≤ v ∧ v ≤ 1 ∧ on a b u = on c d v) ∨ Near a b c q ∨ Near a b d q ∨ Near c d a q ∨ Near c d b q := by
  -- a place to go to
  have goal : ∀ u v : Rat, (∀ l : Rat, 0 ≤ l → l ≤ 1 → dst (on a b (s + l * (u - s))) (on c d (t + l * (v - t))) ≤ q) → (u ≤ 0 ∨ 1 - u ≤ 0 ∨ v ≤ 0 ∨ 1 - v ≤ 0) →
      Near a b c q ∨ Near a b d q ∨ Near c d a q ∨ Near c d b q := fun u v hq hend => by
    obtain ⟨l, l0, l1, hall, f, hf, hf0⟩ := exit_list [(s, u), (1 - s, 1 - u), (t, v), (1 - t, 1 - v)]
      (fun f hf => by simp only [List.mem_cons, List.not_mem_nil, or_false] at hf; rcases hf with rfl | rfl | rfl | rfl <;> simp only <;> grind)
      (by rcases hend with h | h | h | h
          · exact ⟨_, List.mem_cons_self .., h⟩
          · exact ⟨(1 - s, 1 - u), by simp, h⟩
          · exact ⟨(t, v), by simp, h⟩
          · exact ⟨(1 - t, 1 - v), by simp, h⟩)
    have k1 := hall (s, u) (by simp)
    have k2 := hall (1 - s, 1 - u) (by simp)
    have k3 := hall (t, v) (by simp)
    have k4 := hall (1 - t, 1 - v) (by simp)
    simp only at k1 k2 k3 k4
    have hl := hq l l0 l1
    have sym : ∀ x y : Pt, dst x y = dst y x := fun x y => by unfold dst; grind
    simp only [List.mem_cons, List.not_mem_nil, or_false] at hf
    have e0 : ∀ (a b : Pt), on a b 0 = a := fun a b => by unfold on; cases a; simp only [Pt.mk.injEq]; constructor <;> grind
    have e1 : ∀ (a b : Pt), on a b 1 = b := fun a b => by unfold on; cases b; simp only [Pt.mk.injEq]; constructor <;> grind
    rcases hf with rfl | rfl | rfl | rfl
    · right; right; left
      refine ⟨t + l * (v - t), by grind, by grind, ?_⟩
      simp only at hf0
      rw [hf0, e0, sym] at hl; exact hl
    · right; right; right
      refine ⟨t + l * (v - t), by grind, by grind, ?_⟩
      simp only at hf0
      rw [show s + l * (u - s) = 1 by grind, e1, sym] at hl; exact hl
    · left
      refine ⟨s + l * (u - s), by grind, by grind, ?_⟩
      simp only at hf0
      rw [hf0, e0] at hl; exact hl
    · right; left
      refine ⟨s + l * (u - s), by grind, by grind, ?_⟩
      simp only at hf0
      rw [show t + l * (v - t) = 1 by grind, e1] at hl; exact hl
  by_cases hD : (b.x - a.x) * (d.y - c.y) - (b.y - a.y) * (d.x - c.x) = 0
  · right
    -- parallel: d - c = k (b - a)
    have : ∃ k : Rat, d.x - c.x = k * (b.x - a.x) ∧ d.y - c.y = k * (b.y - a.y) := by
      by_cases hx : b.x = a.x
      · have hy : b.y - a.y ≠ 0 := by grind
        obtain ⟨k, hk⟩ := div_ex (n := d.y - c.y) hy
        refine ⟨k, ?_, hk.symm⟩
        have : (d.x - c.x) * (b.y - a.y) = 0 := by grind
        rcases mul_zero_or this with h | h <;> grind
      · have hx' : b.x - a.x ≠ 0 := by grind
        obtain ⟨k, hk⟩ := div_ex (n := d.x - c.x) hx'
        refine ⟨k, hk.symm, ?_⟩
        have : (d.y - c.y - k * (b.y - a.y)) * (b.x - a.x) = 0 := by grind
        rcases mul_zero_or this with h | h <;> grind
    obtain ⟨k, kx, ky⟩ := this
    refine goal (s + k * (1 - t)) 1 (fun l l0 l1 => ?_) (.inr (.inr (.inr (by grind))))
    have : dst (on a b (s + l * (s + k * (1 - t) - s))) (on c d (t + l * (1 - t))) = dst (on a b s) (on c d t) := by
      unfold dst on; simp only; rw [kx, ky]; grind
    rw [this]; exact hd
  · -- the lines cross
    obtain ⟨u, hu⟩ := div_ex (n := (c.x - a.x) * (d.y - c.y) - (c.y - a.y) * (d.x - c.x)) hD
    obtain ⟨v, hv⟩ := div_ex (n := (c.x - a.x) * (b.y - a.y) - (c.y - a.y) * (b.x - a.x)) hD
    have can : ∀ x y : Rat, x * ((b.x - a.x) * (d.y - c.y) - (b.y - a.y) * (d.x - c.x)) = y * ((b.x - a.x) * (d.y - c.y) - (b.y - a.y) * (d.x - c.x)) → x = y := fun x y h => by
      have : (x - y) * ((b.x - a.x) * (d.y - c.y) - (b.y - a.y) * (d.x - c.x)) = 0 := by grind
      rcases mul_zero_or this with h | h <;> grind
    have hx : a.x + u * (b.x - a.x) = c.x + v * (d.x - c.x) := can _ _ (by
      generalize hE : (b.x - a.x) * (d.y - c.y) - (b.y - a.y) * (d.x - c.x) = D at *
      have h1 : (a.x + u * (b.x - a.x)) * D = a.x * D + (u * D) * (b.x - a.x) := by grind
      have h2 : (c.x + v * (d.x - c.x)) * D = c.x * D + (v * D) * (d.x - c.x) := by grind
      rw [h1, h2, hu, hv, ← hE]; grind)
    have hy : a.y + u * (b.y - a.y) = c.y + v * (d.y - c.y) := can _ _ (by
      generalize hE : (b.x - a.x) * (d.y - c.y) - (b.y - a.y) * (d.x - c.x) = D at *
      have h1 : (a.y + u * (b.y - a.y)) * D = a.y * D + (u * D) * (b.y - a.y) := by grind
      have h2 : (c.y + v * (d.y - c.y)) * D = c.y * D + (v * D) * (d.y - c.y) := by grind
      rw [h1, h2, hu, hv, ← hE]; grind)
    have hon : on a b u = on c d v := by unfold on; simp only [Pt.mk.injEq]; exact ⟨hx, hy⟩
    by_cases hin : 0 ≤ u ∧ u ≤ 1 ∧ 0 ≤ v ∧ v ≤ 1
    · exact .inl ⟨u, v, hin.1, hin.2.1, hin.2.2.1, hin.2.2.2, hon⟩
    · right
      refine goal u v (fun l l0 l1 => ?_) (by grind)
      have : dst (on a b (s + l * (u - s))) (on c d (t + l * (v - t))) = (1 - l) * (1 - l) * dst (on a b s) (on c d t) := by
        have ex : a.x + (s + l * (u - s)) * (b.x - a.x) - (c.x + (t + l * (v - t)) * (d.x - c.x)) = (1 - l) * (a.x + s * (b.x - a.x) - (c.x + t * (d.x - c.x))) := by
          have : a.x + (s + l * (u - s)) * (b.x - a.x) - (c.x + (t + l * (v - t)) * (d.x - c.x)) = (1 - l) * (a.x + s * (b.x - a.x) - (c.x + t * (d.x - c.x))) + l * ((a.x + u * (b.x - a.x)) - (c.x + v * (d.x - c.x))) := by grind
          rw [this, hx]; grind
        have ey : a.y + (s + l * (u - s)) * (b.y - a.y) - (c.y + (t + l * (v - t)) * (d.y - c.y)) = (1 - l) * (a.y + s * (b.y - a.y) - (c.y + t * (d.y - c.y))) := by
          have : a.y + (s + l * (u - s)) * (b.y - a.y) - (c.y + (t + l * (v - t)) * (d.y - c.y)) = (1 - l) * (a.y + s * (b.y - a.y) - (c.y + t * (d.y - c.y))) + l * ((a.y + u * (b.y - a.y)) - (c.y + v * (d.y - c.y))) := by grind
          rw [this, hy]; grind
        show (a.x + (s + l * (u - s)) * (b.x - a.x) - (c.x + (t + l * (v - t)) * (d.x - c.x))) * (a.x + (s + l * (u - s)) * (b.x - a.x) - (c.x + (t + l * (v - t)) * (d.x - c.x))) +
          (a.y + (s + l * (u - s)) * (b.y - a.y) - (c.y + (t + l * (v - t)) * (d.y - c.y))) * (a.y + (s + l * (u - s)) * (b.y - a.y) - (c.y + (t + l * (v - t)) * (d.y - c.y))) = _
        rw [ex, ey]
        show _ = (1 - l) * (1 - l) * ((a.x + s * (b.x - a.x) - (c.x + t * (d.x - c.x))) * (a.x + s * (b.x - a.x) - (c.x + t * (d.x - c.x))) + (a.y + s * (b.y - a.y) - (c.y + t * (d.y - c.y))) * (a.y + s * (b.y - a.y) - (c.y + t * (d.y - c.y))))
        grind
      rw [this]
      have h2 := dst_nn (on a b s) (on c d t)
      have h3 : (1 - l) * (1 - l) ≤ 1 := by
        have := mulnn l0 (show 0 ≤ 1 - l by grind)
        grind
      have := mulnn (show 0 ≤ 1 - (1 - l) * (1 - l) by grind) h2
      grind

/-- How far a number is from a range. -/
def gapZ (lo hi e : Int) : Int := max (max (lo - e) 0) (e - hi)
def endZ (b : Box) (w : Int) (e : Z2) : Bool := decide (gapZ b.x0 b.x1 e.1 * gapZ b.x0 b.x1 e.1 + gapZ b.y0 b.y1 e.2 * gapZ b.y0 b.y1 e.2 ≤ w * w)

/-- A point of the box is near a place. -/
theorem end_iff {b : Box} (hb : b.ok) {w : Int} {e : Z2} : endZ b w e = true ↔ ∃ p, InBox b p ∧ dst p (toP e) ≤ (w : Rat) * w := by
  obtain ⟨hx, hy⟩ := hb
  have side1 : ∀ (lo hi e : Int), lo ≤ hi → ∃ x : Int, lo ≤ x ∧ x ≤ hi ∧ (x - e) * (x - e) = gapZ lo hi e * gapZ lo hi e := fun lo hi e h => by
    unfold gapZ
    by_cases h1 : e < lo
    · exact ⟨lo, by omega, by omega, by rw [show max (max (lo - e) 0) (e - hi) = lo - e by omega]⟩
    · by_cases h2 : hi < e
      · exact ⟨hi, by omega, by omega, by rw [show max (max (lo - e) 0) (e - hi) = e - hi by omega]; grind⟩
      · exact ⟨e, by omega, by omega, by rw [show max (max (lo - e) 0) (e - hi) = 0 by omega]; grind⟩
  have side2 : ∀ (lo hi e : Int) (x : Rat), (lo : Rat) ≤ x → x ≤ hi → ((gapZ lo hi e * gapZ lo hi e : Int) : Rat) ≤ (x - e) * (x - e) := fun lo hi e x h1 h2 => by
    unfold gapZ
    by_cases c1 : e < lo
    · rw [show (max (max (lo - e) 0) (e - hi)) = lo - e by have := cast_le.1 (Rat.le_trans h1 h2); omega]
      have c1 := cast_lt.2 c1
      rw [Rat.intCast_mul, Rat.intCast_sub]
      have := mulnn (show 0 ≤ x - lo by grind) (show 0 ≤ (x - e) + (lo - e) by grind)
      grind
    · by_cases c2 : hi < e
      · rw [show (max (max (lo - e) 0) (e - hi)) = e - hi by have := cast_le.1 (Rat.le_trans h1 h2); omega]
        have c2 := cast_lt.2 c2
        rw [Rat.intCast_mul, Rat.intCast_sub]
        have := mulnn (show 0 ≤ (hi : Rat) - x by grind) (show 0 ≤ (e - x) + (e - hi) by grind)
        grind
      · rw [show (max (max (lo - e) 0) (e - hi)) = 0 by omega]
        have := sqnn (x - e)
        have : (((0 : Int) * 0 : Int) : Rat) = 0 := by simp
        grind
  unfold endZ
  rw [decide_eq_true_eq, ← cast_le, Rat.intCast_add, Rat.intCast_mul w w]
  constructor
  · intro h
    obtain ⟨x, x0, x1, hx'⟩ := side1 b.x0 b.x1 e.1 hx
    obtain ⟨y, y0, y1, hy'⟩ := side1 b.y0 b.y1 e.2 hy
    refine ⟨toP (x, y), ⟨cast_le.2 x0, cast_le.2 x1, cast_le.2 y0, cast_le.2 y1⟩, ?_⟩
    unfold dst toP
    simp only
    rw [← hx', ← hy'] at h
    simp only [Rat.intCast_mul, Rat.intCast_sub] at h
    exact h
  · rintro ⟨p, ⟨a1, a2, a3, a4⟩, hd⟩
    have g1 := side2 b.x0 b.x1 e.1 p.x a1 a2
    have g2 := side2 b.y0 b.y1 e.2 p.y a3 a4
    unfold dst toP at hd
    simp only at hd
    grind

/-- A strip has a point of a box. -/
def MeetS (a b : Z2) (w : Int) (x : Box) : Prop := ∃ p, InBox x p ∧ Near (toP a) (toP b) p ((w : Rat) * w)

theorem dst_self (p : Pt) : dst p p = 0 := by unfold dst; grind
theorem wnn (w : Int) : (0 : Rat) ≤ (w : Rat) * w := sqnn _

theorem meet_corner {a b : Z2} {w : Int} {x : Box} (hx : x.ok) {c : Z2} (hc : c ∈ cornersZ x) (h : nearZ a b c w = true) : MeetS a b w x := ⟨toP c, corner_in hx hc, (nearZ_iff ..).1 h⟩
theorem on_zero (a b : Pt) : on a b 0 = a := by unfold on; cases a; simp only [Pt.mk.injEq]; constructor <;> grind
theorem on_one (a b : Pt) : on a b 1 = b := by unfold on; cases b; simp only [Pt.mk.injEq]; constructor <;> grind
theorem dst_sym (x y : Pt) : dst x y = dst y x := by unfold dst; grind
theorem meet_end {a b : Z2} {w : Int} {x : Box} (hx : x.ok) {e : Z2} (he : e = a ∨ e = b) (h : endZ x w e = true) : MeetS a b w x := by
  obtain ⟨p, hp, hd⟩ := (end_iff hx).1 h
  rcases he with rfl | rfl
  · exact ⟨p, hp, 0, by grind, by grind, by rw [on_zero, dst_sym]; exact hd⟩
  · exact ⟨p, hp, 1, by grind, by grind, by rw [on_one, dst_sym]; exact hd⟩
theorem meet_common {a b : Z2} {w : Int} {x : Box} {t : Rat} (h0 : 0 ≤ t) (h1 : t ≤ 1) (h : InBox x (on (toP a) (toP b) t)) : MeetS a b w x :=
  ⟨_, h, t, h0, h1, by rw [dst_self]; exact wnn w⟩
theorem meet_in {a b : Z2} {w : Int} {x : Box} {e : Z2} (he : e = a ∨ e = b) (h : InBox x (toP e)) : MeetS a b w x := by
  rcases he with rfl | rfl
  · exact meet_common (t := 0) (by grind) (by grind) (by rw [on_zero]; exact h)
  · exact meet_common (t := 1) (by grind) (by grind) (by rw [on_one]; exact h)

/-- What a strip with a point of a box has: a corner near, an end near, or a point in common. -/
theorem meet_cases {a b : Z2} {w : Int} {x : Box} (hx : x.ok) (hab : a ≠ b) (h : MeetS a b w x) :
    (∃ c ∈ cornersZ x, nearZ a b c w = true) ∨ endZ x w a = true ∨ endZ x w b = true ∨ ∃ t : Rat, 0 ≤ t ∧ t ≤ 1 ∧ InBox x (on (toP a) (toP b) t) := by
  obtain ⟨p, hp, s, s0, s1, hd⟩ := h
  by_cases hin : InBox x (on (toP a) (toP b) s)
  · exact .inr (.inr (.inr ⟨s, s0, s1, hin⟩))
  have hab' : ¬ ((toP b).x = (toP a).x ∧ (toP b).y = (toP a).y) := fun ⟨h1, h2⟩ => hab (by
    unfold toP at h1 h2
    simp only [Rat.intCast_inj] at h1 h2
    exact Prod.ext h1.symm h2.symm)
  -- from p towards s: an edge of the box
  have edge : ∃ c ∈ cornersZ x, ∃ d ∈ cornersZ x, (∀ t : Rat, 0 ≤ t → t ≤ 1 → InBox x (on (toP c) (toP d) t)) ∧ ∃ t : Rat, 0 ≤ t ∧ t ≤ 1 ∧ dst (on (toP a) (toP b) s) (on (toP c) (toP d) t) ≤ (w : Rat) * w := by
    generalize on (toP a) (toP b) s = m at *
    obtain ⟨p1, p2, p3, p4⟩ := hp
    obtain ⟨l, l0, l1, hall, f, hf, hf0⟩ := exit_list [(p.x - x.x0, m.x - x.x0), (x.x1 - p.x, x.x1 - m.x), (p.y - x.y0, m.y - x.y0), (x.y1 - p.y, x.y1 - m.y)]
      (fun f hf => by simp only [List.mem_cons, List.not_mem_nil, or_false] at hf; rcases hf with rfl | rfl | rfl | rfl <;> simp only <;> grind)
      (by
        by_cases k1 : m.x - x.x0 ≤ 0
        · exact ⟨_, List.mem_cons_self .., k1⟩
        by_cases k2 : (x.x1 : Rat) - m.x ≤ 0
        · exact ⟨((x.x1 : Rat) - p.x, (x.x1 : Rat) - m.x), by simp, k2⟩
        by_cases k3 : m.y - x.y0 ≤ 0
        · exact ⟨(p.y - x.y0, m.y - x.y0), by simp, k3⟩
        by_cases k4 : (x.y1 : Rat) - m.y ≤ 0
        · exact ⟨((x.y1 : Rat) - p.y, (x.y1 : Rat) - m.y), by simp, k4⟩
        · exact absurd ⟨by grind, by grind, by grind, by grind⟩ hin)
    have k1 := hall (p.x - x.x0, m.x - x.x0) (by simp)
    have k2 := hall ((x.x1 : Rat) - p.x, (x.x1 : Rat) - m.x) (by simp)
    have k3 := hall (p.y - x.y0, m.y - x.y0) (by simp)
    have k4 := hall ((x.y1 : Rat) - p.y, (x.y1 : Rat) - m.y) (by simp)
    simp only at k1 k2 k3 k4
    have hd' : dst m (on p m l) ≤ (w : Rat) * w := by
      rw [dst_sym]
      exact dst_shrink l0 l1 (by rw [dst_sym]; exact hd)
    have q1 : (x.x0 : Rat) ≤ (on p m l).x := by unfold on; simp only; grind
    have q2 : (on p m l).x ≤ x.x1 := by unfold on; simp only; grind
    have q3 : (x.y0 : Rat) ≤ (on p m l).y := by unfold on; simp only; grind
    have q4 : (on p m l).y ≤ x.y1 := by unfold on; simp only; grind
    have hox : (on p m l).x = p.x + l * (m.x - p.x) := rfl
    have hoy : (on p m l).y = p.y + l * (m.y - p.y) := rfl
    generalize on p m l = o at *
    have inb : ∀ c ∈ cornersZ x, ∀ d ∈ cornersZ x, ∀ t : Rat, 0 ≤ t → t ≤ 1 → InBox x (on (toP c) (toP d) t) := fun c hc d hd t t0 t1 => inBox_on t0 t1 (corner_in hx hc) (corner_in hx hd)
    have fin : ∀ c ∈ cornersZ x, ∀ d ∈ cornersZ x, (∃ t : Rat, 0 ≤ t ∧ t ≤ 1 ∧ o = on (toP c) (toP d) t) → ∃ c ∈ cornersZ x, ∃ d ∈ cornersZ x, (∀ t : Rat, 0 ≤ t → t ≤ 1 → InBox x (on (toP c) (toP d) t)) ∧ ∃ t : Rat, 0 ≤ t ∧ t ≤ 1 ∧ dst m (on (toP c) (toP d) t) ≤ (w : Rat) * w :=
      fun c hc d hd ⟨t, t0, t1, ht⟩ => ⟨c, hc, d, hd, inb c hc d hd, t, t0, t1, by rw [← ht]; exact hd'⟩
    simp only [List.mem_cons, List.not_mem_nil, or_false] at hf
    rcases hf with rfl | rfl | rfl | rfl <;> simp only at hf0
    · refine fin (x.x0, x.y0) (by simp [cornersZ]) (x.x0, x.y1) (by simp [cornersZ]) ?_
      obtain ⟨t, t0, t1, ht⟩ := param q3 q4
      refine ⟨t, t0, t1, ?_⟩
      cases o; unfold on toP; simp only at *; simp only [Pt.mk.injEq]; constructor <;> grind
    · refine fin (x.x1, x.y0) (by simp [cornersZ]) (x.x1, x.y1) (by simp [cornersZ]) ?_
      obtain ⟨t, t0, t1, ht⟩ := param q3 q4
      refine ⟨t, t0, t1, ?_⟩
      cases o; unfold on toP; simp only at *; simp only [Pt.mk.injEq]; constructor <;> grind
    · refine fin (x.x0, x.y0) (by simp [cornersZ]) (x.x1, x.y0) (by simp [cornersZ]) ?_
      obtain ⟨t, t0, t1, ht⟩ := param q1 q2
      refine ⟨t, t0, t1, ?_⟩
      cases o; unfold on toP; simp only at *; simp only [Pt.mk.injEq]; constructor <;> grind
    · refine fin (x.x0, x.y1) (by simp [cornersZ]) (x.x1, x.y1) (by simp [cornersZ]) ?_
      obtain ⟨t, t0, t1, ht⟩ := param q1 q2
      refine ⟨t, t0, t1, ?_⟩
      cases o; unfold on toP; simp only at *; simp only [Pt.mk.injEq]; constructor <;> grind
  obtain ⟨c, hc, d, hdc, hcd, t, t0, t1, hq⟩ := edge
  rcases seg_seg hab' s0 s1 t0 t1 hq with ⟨u, v, u0, u1, v0, v1, e⟩ | h | h | h | h
  · exact .inr (.inr (.inr ⟨u, u0, u1, by rw [e]; exact hcd v v0 v1⟩))
  · exact .inl ⟨c, hc, (nearZ_iff ..).2 h⟩
  · exact .inl ⟨d, hdc, (nearZ_iff ..).2 h⟩
  · right; left
    obtain ⟨v, v0, v1, hv⟩ := h
    exact (end_iff hx).2 ⟨_, hcd v v0 v1, hv⟩
  · right; right; left
    obtain ⟨v, v0, v1, hv⟩ := h
    exact (end_iff hx).2 ⟨_, hcd v v0 v1, hv⟩
end Go.Proofs.Geo

/- A strip's piece goes through a patch: by its box and the sides of the corners; by the diagonals. No program here. -/
namespace Go.Proofs.Geo

theorem ne_toP {a b : Z2} (h : a ≠ b) : ¬ ((toP b).x = (toP a).x ∧ (toP b).y = (toP a).y) := fun ⟨h1, h2⟩ => h (by
  unfold toP at h1 h2
  simp only [Rat.intCast_inj] at h1 h2
  exact Prod.ext h1.symm h2.symm)
/-- A point on a line is at some part of the way. -/
theorem on_line {a b q : Pt} (hab : ¬ (b.x = a.x ∧ b.y = a.y)) (h : side a b q = 0) : ∃ t : Rat, q = on a b t := by
  unfold side at h
  by_cases hx : b.x = a.x
  · have hy : b.y - a.y ≠ 0 := by grind
    obtain ⟨t, ht⟩ := div_ex (n := q.y - a.y) hy
    refine ⟨t, ?_⟩
    have : (q.x - a.x) * (b.y - a.y) = 0 := by grind
    have : q.x = a.x := by rcases mul_zero_or this with h | h <;> grind
    cases q; unfold on; simp only [Pt.mk.injEq]; simp only at *; constructor <;> grind
  · have hy : b.x - a.x ≠ 0 := by grind
    obtain ⟨t, ht⟩ := div_ex (n := q.x - a.x) hy
    refine ⟨t, ?_⟩
    have : (q.y - a.y - t * (b.y - a.y)) * (b.x - a.x) = 0 := by grind
    have : q.y = a.y + t * (b.y - a.y) := by rcases mul_zero_or this with h | h <;> grind
    cases q; unfold on; simp only [Pt.mk.injEq]; simp only at *; constructor <;> grind

/-- Between two points on different sides of a line is one on it. -/
theorem zero_between {f g : Rat} (hf : 0 ≤ f) (hg : g ≤ 0) : ∃ t : Rat, 0 ≤ t ∧ t ≤ 1 ∧ f + t * (g - f) = 0 := by
  obtain ⟨t, t0, t1, _, x, hx, h0⟩ := exit_list [(f, g)] (fun x hx => by simp only [List.mem_singleton] at hx; subst hx; exact hf) ⟨(f, g), by simp, hg⟩
  simp only [List.mem_singleton] at hx; subst hx
  exact ⟨t, t0, t1, h0⟩

/-- A line that has a point of a box at t, and one at another place: between the ends, or an end is in the box. -/
theorem in_or_end {x : Box} {a b : Pt} {t : Rat} (h : InBox x (on a b t)) (hlo : ∀ (f : Pt → Rat), (f = (fun p : Pt => p.x - x.x0) ∨ f = (fun p : Pt => (x.x1 : Rat) - p.x) ∨ f = (fun p : Pt => p.y - x.y0) ∨ f = (fun p : Pt => (x.y1 : Rat) - p.y)) → 0 ≤ f a ∨ 0 ≤ f b) :
    (0 ≤ t ∧ t ≤ 1) ∨ InBox x a ∨ InBox x b := by
  by_cases h0 : 0 ≤ t
  · by_cases h1 : t ≤ 1
    · exact .inl ⟨h0, h1⟩
    · right; right
      -- b lies between a and the point
      have key : ∀ f g z : Rat, (0 ≤ f ∨ 0 ≤ g) → 0 ≤ f + t * (g - f) → 0 ≤ g := fun f g z hfg hz => by
        by_cases hg : 0 ≤ g
        · exact hg
        · have hf : 0 ≤ f := by grind
          have := mulnn (show 0 ≤ t - 1 by grind) (show 0 ≤ f - g by grind)
          grind
      obtain ⟨b1, b2, b3, b4⟩ := h
      unfold on at b1 b2 b3 b4
      simp only at b1 b2 b3 b4
      have k1 := hlo (fun p : Pt => p.x - x.x0) (.inl rfl)
      have k2 := hlo (fun p : Pt => (x.x1 : Rat) - p.x) (.inr (.inl rfl))
      have k3 := hlo (fun p : Pt => p.y - x.y0) (.inr (.inr (.inl rfl)))
      have k4 := hlo (fun p : Pt => (x.y1 : Rat) - p.y) (.inr (.inr (.inr rfl)))
      have e1 := key _ _ 0 k1 (by grind)
      have e2 := key _ _ 0 k2 (by grind)
      have e3 := key _ _ 0 k3 (by grind)
      have e4 := key _ _ 0 k4 (by grind)
      
      exact ⟨by grind, by grind, by grind, by grind⟩
  · right; left
    have key : ∀ f g z : Rat, (0 ≤ f ∨ 0 ≤ g) → 0 ≤ f + t * (g - f) → 0 ≤ f := fun f g z hfg hz => by
      by_cases hf : 0 ≤ f
      · exact hf
      · have hg : 0 ≤ g := by grind
        have := mulnn (show 0 ≤ -t by grind) (show 0 ≤ g - f by grind)
        grind
    obtain ⟨b1, b2, b3, b4⟩ := h
    unfold on at b1 b2 b3 b4
    simp only at b1 b2 b3 b4
    have k1 := hlo (fun p : Pt => p.x - x.x0) (.inl rfl)
    have k2 := hlo (fun p : Pt => (x.x1 : Rat) - p.x) (.inr (.inl rfl))
    have k3 := hlo (fun p : Pt => p.y - x.y0) (.inr (.inr (.inl rfl)))
    have k4 := hlo (fun p : Pt => (x.y1 : Rat) - p.y) (.inr (.inr (.inr rfl)))
    have e1 := key _ _ 0 k1 (by grind)
    have e2 := key _ _ 0 k2 (by grind)
    have e3 := key _ _ 0 k3 (by grind)
    have e4 := key _ _ 0 k4 (by grind)
    
    exact ⟨by grind, by grind, by grind, by grind⟩

/-- The program's question: the boxes meet, and the corners are on both sides. -/
def throughZ (a b : Z2) (x : Box) : Bool :=
  !(decide (max a.1 b.1 < x.x0) || (decide (min a.1 b.1 > x.x1) || (decide (max a.2 b.2 < x.y0) || decide (min a.2 b.2 > x.y1)))) &&
    ((cornersZ x).any (fun c => decide (0 ≤ sideZ a b c)) && (cornersZ x).any (fun c => decide (sideZ a b c ≤ 0)))

theorem through_meet {a b : Z2} {w : Int} {x : Box} (hx : x.ok) (hab : a ≠ b) (h : throughZ a b x = true) : MeetS a b w x := by
  unfold throughZ at h
  simp only [Bool.and_eq_true, Bool.not_eq_true', Bool.or_eq_false_iff, decide_eq_false_iff_not, List.any_eq_true, decide_eq_true_eq] at h
  obtain ⟨⟨h1, h2, h3, h4⟩, ⟨c, hc, hc0⟩, d, hd, hd0⟩ := h
  have ec : 0 ≤ side (toP a) (toP b) (toP c) := by rw [side_cast]; exact cast_nn.2 hc0
  have ed : side (toP a) (toP b) (toP d) ≤ 0 := by rw [side_cast]; exact cast_np.2 hd0
  obtain ⟨t, t0, t1, ht⟩ := zero_between ec ed
  have hz : InBox x (on (toP c) (toP d) t) := inBox_on t0 t1 (corner_in hx hc) (corner_in hx hd)
  have hs : side (toP a) (toP b) (on (toP c) (toP d) t) = 0 := by rw [side_on]; exact ht
  obtain ⟨s, hs⟩ := on_line (ne_toP hab) hs
  rw [hs] at hz
  rcases in_or_end hz (fun f hf => by
    rcases hf with rfl | rfl | rfl | rfl <;> unfold toP <;> simp only
    · by_cases k : x.x0 ≤ a.1
      · left; have := cast_le.2 k; grind
      · right; have := cast_le.2 (show x.x0 ≤ b.1 by omega); grind
    · by_cases k : a.1 ≤ x.x1
      · left; have := cast_le.2 k; grind
      · right; have := cast_le.2 (show b.1 ≤ x.x1 by omega); grind
    · by_cases k : x.y0 ≤ a.2
      · left; have := cast_le.2 k; grind
      · right; have := cast_le.2 (show x.y0 ≤ b.2 by omega); grind
    · by_cases k : a.2 ≤ x.y1
      · left; have := cast_le.2 k; grind
      · right; have := cast_le.2 (show b.2 ≤ x.y1 by omega); grind) with ⟨s0, s1⟩ | h | h
  · exact meet_common s0 s1 hz
  · exact meet_in (.inl rfl) h
  · exact meet_in (.inr rfl) h

theorem corners_sides {a b : Z2} {x : Box} {p : Pt} (hp : InBox x p) (hs : side (toP a) (toP b) p = 0) : (∃ c ∈ cornersZ x, 0 ≤ sideZ a b c) ∧ ∃ c ∈ cornersZ x, sideZ a b c ≤ 0 := by
  constructor
  · by_cases h : ∃ c ∈ cornersZ x, 0 ≤ sideZ a b c
    · exact h
    · have : side (toP a) (toP b) p < 0 := box_convex (b := x) (Q := fun p => side (toP a) (toP b) p < 0) (fun p q t t0 t1 hp hq => by
        rw [side_on]
        have := mulnn t0 (show 0 ≤ - side (toP a) (toP b) q by grind)
        have := mulnn (show 0 ≤ 1 - t by grind) (show 0 ≤ - side (toP a) (toP b) p by grind)
        by_cases e : t = 0
        · subst e; grind
        · have := Rat.mul_pos (show 0 < t by grind) (show 0 < - side (toP a) (toP b) q by grind)
          grind)
        (fun c hc => by
          rw [side_cast]
          have : sideZ a b c < 0 := by by_cases k : 0 ≤ sideZ a b c; exact absurd ⟨c, hc, k⟩ h; omega
          have := cast_lt.2 this
          simpa using this) hp
      grind
  · by_cases h : ∃ c ∈ cornersZ x, sideZ a b c ≤ 0
    · exact h
    · have : 0 < side (toP a) (toP b) p := box_convex (b := x) (Q := fun p => 0 < side (toP a) (toP b) p) (fun p q t t0 t1 hp hq => by
        rw [side_on]
        have := mulnn t0 (show 0 ≤ side (toP a) (toP b) q by grind)
        have := mulnn (show 0 ≤ 1 - t by grind) (show 0 ≤ side (toP a) (toP b) p by grind)
        by_cases e : t = 0
        · subst e; grind
        · have := Rat.mul_pos (show 0 < t by grind) (show 0 < side (toP a) (toP b) q by grind)
          grind)
        (fun c hc => by
          rw [side_cast]
          have : 0 < sideZ a b c := by by_cases k : sideZ a b c ≤ 0; exact absurd ⟨c, hc, k⟩ h; omega
          have := cast_lt.2 this
          simpa using this) hp
      grind

theorem meet_through {a b : Z2} {x : Box} {t : Rat} (t0 : 0 ≤ t) (t1 : t ≤ 1) (h : InBox x (on (toP a) (toP b) t)) : throughZ a b x = true := by
  obtain ⟨hc, hd⟩ := corners_sides h (side_ends _ _ _)
  obtain ⟨h1, h2, h3, h4⟩ := h
  unfold throughZ
  simp only [Bool.and_eq_true, Bool.not_eq_true', Bool.or_eq_false_iff, decide_eq_false_iff_not, List.any_eq_true, decide_eq_true_eq]
  have lo : ∀ u v l : Int, (l : Rat) ≤ (u : Rat) + t * (v - u) → ¬ max u v < l := fun u v l hl hm => by
    have k1 := cast_lt.2 (show u < l by omega)
    have k2 := cast_lt.2 (show v < l by omega)
    have := mulnn t0 (show 0 ≤ (l : Rat) - v by grind)
    have := mulnn (show 0 ≤ 1 - t by grind) (show 0 ≤ (l : Rat) - u by grind)
    by_cases e : t = 0
    · subst e; grind
    · have := Rat.mul_pos (show 0 < t by grind) (show 0 < (l : Rat) - v by grind)
      grind
  have hi : ∀ u v l : Int, (u : Rat) + t * (v - u) ≤ l → ¬ min u v > l := fun u v l hl hm => by
    have k1 := cast_lt.2 (show l < u by omega)
    have k2 := cast_lt.2 (show l < v by omega)
    have := mulnn t0 (show 0 ≤ (v : Rat) - l by grind)
    have := mulnn (show 0 ≤ 1 - t by grind) (show 0 ≤ (u : Rat) - l by grind)
    by_cases e : t = 0
    · subst e; grind
    · have := Rat.mul_pos (show 0 < t by grind) (show 0 < (v : Rat) - l by grind)
      grind
  unfold on toP at h1 h2 h3 h4
  simp only at h1 h2 h3 h4
  exact ⟨⟨lo _ _ _ h1, hi _ _ _ h2, lo _ _ _ h3, hi _ _ _ h4⟩, hc, hd⟩

/-- What the program asks of a strip and a patch. -/
def someP (a b : Z2) (w : Int) (x : Box) : Bool := (cornersZ x).any (fun c => nearZ a b c w) || (endZ x w a || (endZ x w b || throughZ a b x))
theorem someP_iff {a b : Z2} {w : Int} {x : Box} (hx : x.ok) (hab : a ≠ b) : someP a b w x = true ↔ MeetS a b w x := by
  unfold someP
  simp only [Bool.or_eq_true, List.any_eq_true]
  constructor
  · rintro (⟨c, hc, h⟩ | h | h | h)
    · exact meet_corner hx hc h
    · exact meet_end hx (.inl rfl) h
    · exact meet_end hx (.inr rfl) h
    · exact through_meet hx hab h
  · intro h
    rcases meet_cases hx hab h with ⟨c, hc, h⟩ | h | h | ⟨t, t0, t1, h⟩
    · exact .inl ⟨c, hc, h⟩
    · exact .inr (.inl h)
    · exact .inr (.inr (.inl h))
    · exact .inr (.inr (.inr (meet_through t0 t1 h)))

/-! The reference's question: a diagonal is crossed. -/

def signZ (n : Int) : Int := max (-1) (min 1 n)
def fromZ (n lo hi : Int) : Bool := decide (lo ≤ n) && decide (n ≤ hi)
def betweenZ (p a b : Z2) : Bool := fromZ p.1 (min a.1 b.1) (max a.1 b.1) && fromZ p.2 (min a.2 b.2) (max a.2 b.2)
def crossesZ (a b c d : Z2) : Bool :=
  (decide (signZ (sideZ a b c) * signZ (sideZ a b d) < 0) && decide (signZ (sideZ c d a) * signZ (sideZ c d b) < 0)) ||
    (((decide (signZ (sideZ a b c) = 0) && betweenZ c a b) || (decide (signZ (sideZ a b d) = 0) && betweenZ d a b)) ||
      ((decide (signZ (sideZ c d a) = 0) && betweenZ a c d) || (decide (signZ (sideZ c d b) = 0) && betweenZ b c d)))

theorem sign_zero {n : Int} : signZ n = 0 ↔ n = 0 := by unfold signZ; omega
theorem sign_neg {p q : Int} : signZ p * signZ q < 0 ↔ (p < 0 ∧ 0 < q) ∨ (0 < p ∧ q < 0) := by
  have c : ∀ n : Int, (n < 0 ∧ signZ n = -1) ∨ (n = 0 ∧ signZ n = 0) ∨ (0 < n ∧ signZ n = 1) := fun n => by unfold signZ; omega
  rcases c p with ⟨h1, e1⟩ | ⟨h1, e1⟩ | ⟨h1, e1⟩ <;> rcases c q with ⟨h2, e2⟩ | ⟨h2, e2⟩ | ⟨h2, e2⟩ <;> rw [e1, e2] <;> omega

theorem between_on {p a b : Z2} {t : Rat} (t0 : 0 ≤ t) (t1 : t ≤ 1) (h : toP p = on (toP a) (toP b) t) : betweenZ p a b = true := by
  unfold on toP at h
  simp only [Pt.mk.injEq] at h
  have key : ∀ x u v : Int, (x : Rat) = u + t * (v - u) → fromZ x (min u v) (max u v) = true := fun x u v e => by
    unfold fromZ
    simp only [Bool.and_eq_true, decide_eq_true_eq]
    rcases Int.le_total u v with k | k
    · have k' := cast_le.2 k
      have e1 := mulnn t0 (show 0 ≤ (v : Rat) - u by grind)
      have e2 := mulnn (show 0 ≤ 1 - t by grind) (show 0 ≤ (v : Rat) - u by grind)
      have l1 := cast_le.1 (show (u : Rat) ≤ x by grind)
      have l2 := cast_le.1 (show (x : Rat) ≤ v by grind)
      omega
    · have k' := cast_le.2 k
      have e1 := mulnn t0 (show 0 ≤ (u : Rat) - v by grind)
      have e2 := mulnn (show 0 ≤ 1 - t by grind) (show 0 ≤ (u : Rat) - v by grind)
      have l1 := cast_le.1 (show (x : Rat) ≤ u by grind)
      have l2 := cast_le.1 (show (v : Rat) ≤ x by grind)
      omega
  unfold betweenZ
  rw [key _ _ _ h.1, key _ _ _ h.2]; rfl
theorem on_between {p a b : Z2} (hab : a ≠ b) (hs : sideZ a b p = 0) (h : betweenZ p a b = true) : ∃ t : Rat, 0 ≤ t ∧ t ≤ 1 ∧ toP p = on (toP a) (toP b) t := by
  have hs' : side (toP a) (toP b) (toP p) = 0 := by rw [side_cast, hs]; rfl
  obtain ⟨t, ht⟩ := on_line (ne_toP hab) hs'
  refine ⟨t, ?_, ?_, ht⟩
  all_goals
    unfold betweenZ fromZ at h
    simp only [Bool.and_eq_true, decide_eq_true_eq] at h
    unfold on toP at ht
    simp only [Pt.mk.injEq] at ht
    obtain ⟨⟨a1, a2⟩, a3, a4⟩ := h
    obtain ⟨hx, hy⟩ := ht
    rcases Int.lt_trichotomy a.1 b.1 with k | k | k
    · have k' := cast_lt.2 k
      have l1 := cast_le.2 (show a.1 ≤ p.1 by omega)
      have l2 := cast_le.2 (show p.1 ≤ b.1 by omega)
      first | exact pos_of_mul (d := (b.1 : Rat) - a.1) (by grind) (by grind) | exact le_of_mul (d := (b.1 : Rat) - a.1) (by grind) (by grind)
    · rcases Int.lt_trichotomy a.2 b.2 with k2 | k2 | k2
      · have k' := cast_lt.2 k2
        have l1 := cast_le.2 (show a.2 ≤ p.2 by omega)
        have l2 := cast_le.2 (show p.2 ≤ b.2 by omega)
        first | exact pos_of_mul (d := (b.2 : Rat) - a.2) (by grind) (by grind) | exact le_of_mul (d := (b.2 : Rat) - a.2) (by grind) (by grind)
      · exact absurd (Prod.ext k k2) hab
      · have k' := cast_lt.2 k2
        have l1 := cast_le.2 (show b.2 ≤ p.2 by omega)
        have l2 := cast_le.2 (show p.2 ≤ a.2 by omega)
        first | exact pos_of_mul (d := (a.2 : Rat) - b.2) (by grind) (by grind) | exact le_of_mul (d := (a.2 : Rat) - b.2) (by grind) (by grind)
    · have k' := cast_lt.2 k
      have l1 := cast_le.2 (show b.1 ≤ p.1 by omega)
      have l2 := cast_le.2 (show p.1 ≤ a.1 by omega)
      first | exact pos_of_mul (d := (a.1 : Rat) - b.1) (by grind) (by grind) | exact le_of_mul (d := (a.1 : Rat) - b.1) (by grind) (by grind)

theorem between_in {x : Box} (hx : x.ok) {c d p : Z2} (hc : c ∈ cornersZ x) (hd : d ∈ cornersZ x) (h : betweenZ p c d = true) : InBox x (toP p) := by
  unfold betweenZ fromZ at h
  simp only [Bool.and_eq_true, decide_eq_true_eq] at h
  obtain ⟨h1, h2⟩ := hx
  have cc : ∀ c ∈ cornersZ x, x.x0 ≤ c.1 ∧ c.1 ≤ x.x1 ∧ x.y0 ≤ c.2 ∧ c.2 ≤ x.y1 := fun c hc => by
    simp only [cornersZ, List.mem_cons, List.not_mem_nil, or_false] at hc
    rcases hc with rfl | rfl | rfl | rfl <;> simp only <;> omega
  have k1 := cc c hc
  have k2 := cc d hd
  exact ⟨cast_le.2 (by omega), cast_le.2 (by omega), cast_le.2 (by omega), cast_le.2 (by omega)⟩

theorem crosses_meet {a b c d : Z2} {w : Int} {x : Box} (hx : x.ok) (hab : a ≠ b) (hc : c ∈ cornersZ x) (hd : d ∈ cornersZ x) (h : crossesZ a b c d = true) : MeetS a b w x := by
  unfold crossesZ at h
  simp only [Bool.or_eq_true, Bool.and_eq_true, decide_eq_true_eq, sign_zero, sign_neg] at h
  have common : ∀ y : Z2, y ∈ cornersZ x → sideZ a b y = 0 → betweenZ y a b = true → MeetS a b w x := fun y hy h0 hb => by
    obtain ⟨t, t0, t1, ht⟩ := on_between hab h0 hb
    exact meet_common t0 t1 (by rw [← ht]; exact corner_in hx hy)
  rcases h with ⟨hp, hr⟩ | (⟨h0, hb⟩ | ⟨h0, hb⟩) | ⟨h0, hb⟩ | ⟨h0, hb⟩
  · -- a point of the diagonal on the line
    have : ∃ t : Rat, 0 ≤ t ∧ t ≤ 1 ∧ side (toP a) (toP b) (on (toP c) (toP d) t) = 0 := by
      simp only [side_on, side_cast]
      rcases hp with ⟨p1, p2⟩ | ⟨p1, p2⟩
      · obtain ⟨t, t0, t1, ht⟩ := zero_between (f := -((sideZ a b c : Int) : Rat)) (g := -((sideZ a b d : Int) : Rat)) (by have := cast_np.2 (Int.le_of_lt p1); grind) (by have := cast_nn.2 (Int.le_of_lt p2); grind)
        exact ⟨t, t0, t1, by grind⟩
      · exact zero_between (cast_nn.2 (Int.le_of_lt p1)) (cast_np.2 (Int.le_of_lt p2))
    obtain ⟨t, t0, t1, ht⟩ := this
    obtain ⟨s, hs⟩ := on_line (ne_toP hab) ht
    have hz : side (toP c) (toP d) (on (toP a) (toP b) s) = 0 := by rw [← hs, side_ends]
    rw [side_on, side_cast, side_cast] at hz
    have hs01 : 0 ≤ s ∧ s ≤ 1 := by
      rcases hr with ⟨r1, r2⟩ | ⟨r1, r2⟩
      · have r1 := cast_lt.2 r1
        have r2 := cast_lt.2 r2
        simp only [Rat.intCast_zero] at r1 r2
        constructor
        · exact pos_of_mul (d := ((sideZ c d b : Int) : Rat) - (sideZ c d a : Int)) (by grind) (by grind)
        · exact le_of_mul (d := ((sideZ c d b : Int) : Rat) - (sideZ c d a : Int)) (by grind) (by grind)
      · have r1 := cast_lt.2 r1
        have r2 := cast_lt.2 r2
        simp only [Rat.intCast_zero] at r1 r2
        constructor
        · exact pos_of_mul (d := ((sideZ c d a : Int) : Rat) - (sideZ c d b : Int)) (by grind) (by grind)
        · exact le_of_mul (d := ((sideZ c d a : Int) : Rat) - (sideZ c d b : Int)) (by grind) (by grind)
    exact meet_common hs01.1 hs01.2 (by rw [← hs]; exact inBox_on t0 t1 (corner_in hx hc) (corner_in hx hd))
  · exact common c hc h0 hb
  · exact common d hd h0 hb
  · exact meet_in (.inl rfl) (between_in hx hc hd hb)
  · exact meet_in (.inr rfl) (between_in hx hc hd hb)

theorem side_swap0 (a b c d : Pt) (s t : Rat) (h : on a b s = on c d t) : (1 - t) * side a b c + t * side a b d = 0 := by
  have h1 := side_ends a b s
  rw [h, side_on] at h1
  grind
theorem crosses_of {a b c d : Z2} {s t : Rat} (hab : a ≠ b) (s0 : 0 ≤ s) (s1 : s ≤ 1) (t0 : 0 ≤ t) (t1 : t ≤ 1) (h : on (toP a) (toP b) s = on (toP c) (toP d) t) : crossesZ a b c d = true := by
  unfold crossesZ
  simp only [Bool.or_eq_true, Bool.and_eq_true, decide_eq_true_eq, sign_zero, sign_neg]
  have hp := side_swap0 _ _ _ _ _ _ h
  have hr := side_swap0 _ _ _ _ _ _ h.symm
  simp only [side_cast] at hp hr
  have opp : ∀ (p q : Int) (t : Rat), 0 ≤ t → t ≤ 1 → (1 - t) * (p : Rat) + t * (q : Rat) = 0 → p ≠ 0 → q ≠ 0 → (p < 0 ∧ 0 < q) ∨ (0 < p ∧ q < 0) := fun p q t t0 t1 e hp hq => by
    have key : ∀ p q : Int, 0 < p → 0 < q → (1 - t) * (p : Rat) + t * (q : Rat) = 0 → False := fun p q hp hq e => by
      have hp := cast_pos.2 hp
      have hq := cast_pos.2 hq
      have e1 := mulnn t0 (show 0 ≤ (q : Rat) by grind)
      have e2 := mulnn (show 0 ≤ 1 - t by grind) (show 0 ≤ (p : Rat) by grind)
      by_cases k : t = 0
      · subst k; grind
      · have := Rat.mul_pos (show 0 < t by grind) hq
        grind
    rcases Int.lt_trichotomy p 0 with k | k | k
    · rcases Int.lt_trichotomy q 0 with k2 | k2 | k2
      · exact (key (-p) (-q) (by omega) (by omega) (by simp only [Rat.intCast_neg]; grind)).elim
      · exact absurd k2 hq
      · exact .inl ⟨k, k2⟩
    · exact absurd k hp
    · rcases Int.lt_trichotomy q 0 with k2 | k2 | k2
      · exact .inr ⟨k, k2⟩
      · exact absurd k2 hq
      · exact (key p q k k2 e).elim
  have zero_t : ∀ (q : Int) (t : Rat), t * (q : Rat) = 0 → q ≠ 0 → t = 0 := fun q t e hq => by
    rcases mul_zero_or e with k | k
    · exact k
    · exact absurd (by rw [← Rat.intCast_zero, Rat.intCast_inj] at k; exact k) hq
  by_cases p0 : sideZ a b c = 0
  · by_cases q0 : sideZ a b d = 0
    · -- all on one line
      obtain ⟨g, hg⟩ := on_line (ne_toP hab) (show side (toP a) (toP b) (toP c) = 0 by rw [side_cast, p0]; rfl)
      obtain ⟨e, he⟩ := on_line (ne_toP hab) (show side (toP a) (toP b) (toP d) = 0 by rw [side_cast, q0]; rfl)
      have hst : s = g + t * (e - g) := by
        have hne := ne_toP hab
        rw [hg, he] at h
        unfold on at h
        simp only [Pt.mk.injEq] at h
        obtain ⟨h1, h2⟩ := h
        by_cases hx : (toP b).x = (toP a).x
        · have hy : (toP b).y - (toP a).y ≠ 0 := by grind
          have : (s - (g + t * (e - g))) * ((toP b).y - (toP a).y) = 0 := by grind
          rcases mul_zero_or this with k | k <;> grind
        · have hy : (toP b).x - (toP a).x ≠ 0 := by grind
          have : (s - (g + t * (e - g))) * ((toP b).x - (toP a).x) = 0 := by grind
          rcases mul_zero_or this with k | k <;> grind
      by_cases g01 : 0 ≤ g ∧ g ≤ 1
      · exact .inr (.inl (.inl ⟨p0, between_on g01.1 g01.2 hg⟩))
      by_cases e01 : 0 ≤ e ∧ e ≤ 1
      · exact .inr (.inl (.inr ⟨q0, between_on e01.1 e01.2 he⟩))
      -- a is between c and d
      right; right; left
      have r0 : side (toP c) (toP d) (toP a) = 0 := by
        rw [hg, he]; unfold side on; grind
      rw [side_cast] at r0
      refine ⟨by rw [← Rat.intCast_zero, Rat.intCast_inj] at r0; exact r0, ?_⟩
      have hge : (g < 0 ∧ 1 < e) ∨ (e < 0 ∧ 1 < g) := by
        by_cases k1 : g < 0
        · by_cases k2 : 1 < e
          · exact .inl ⟨k1, k2⟩
          · have k3 : e < 0 := by grind
            have := mulnn t0 (show 0 ≤ -e by grind)
            have := mulnn (show 0 ≤ 1 - t by grind) (show 0 ≤ -g by grind)
            by_cases k : t = 0
            · subst k; grind
            · have := Rat.mul_pos (show 0 < t by grind) (show 0 < -e by grind)
              grind
        · have k1 : 1 < g := by grind
          by_cases k2 : e < 0
          · exact .inr ⟨k2, k1⟩
          · have k3 : 1 < e := by grind
            have := mulnn t0 (show 0 ≤ e - 1 by grind)
            have := mulnn (show 0 ≤ 1 - t by grind) (show 0 ≤ g - 1 by grind)
            by_cases k : t = 0
            · subst k; grind
            · have := Rat.mul_pos (show 0 < t by grind) (show 0 < e - 1 by grind)
              grind
      obtain ⟨u, hu⟩ := div_ex (n := -g) (d := e - g) (by grind)
      have u01 : 0 ≤ u ∧ u ≤ 1 := by
        rcases hge with ⟨k1, k2⟩ | ⟨k1, k2⟩
        · exact ⟨pos_of_mul (d := e - g) (by grind) (by grind), le_of_mul (d := e - g) (by grind) (by grind)⟩
        · exact ⟨pos_of_mul (d := g - e) (by grind) (by grind), le_of_mul (d := g - e) (by grind) (by grind)⟩
      refine between_on u01.1 u01.2 ?_
      rw [hg, he]
      have : g + u * (e - g) = 0 := by grind
      have e2 : on (on (toP a) (toP b) g) (on (toP a) (toP b) e) u = on (toP a) (toP b) (g + u * (e - g)) := by unfold on; simp only [Pt.mk.injEq]; constructor <;> grind
      rw [e2, this, on_zero]
    · -- the common point is c
      have ht : t = 0 := zero_t _ t (by rw [p0] at hp; simp only [Rat.intCast_zero] at hp; grind) q0
      subst ht
      rw [on_zero] at h
      exact .inr (.inl (.inl ⟨p0, between_on s0 s1 h.symm⟩))
  · by_cases q0 : sideZ a b d = 0
    · have ht : 1 - t = 0 := zero_t _ (1 - t) (by rw [q0] at hp; simp only [Rat.intCast_zero] at hp; grind) p0
      have ht : t = 1 := by grind
      subst ht
      rw [on_one] at h
      exact .inr (.inl (.inr ⟨q0, between_on s0 s1 h.symm⟩))
    · by_cases r0 : sideZ c d a = 0
      · by_cases u0 : sideZ c d b = 0
        · exfalso
          -- then c is on the line of a and b
          have i1 : sideZ c d a - sideZ c d b = sideZ a b d - sideZ a b c := by unfold sideZ; grind
          have i2 : sideZ a b c = sideZ a b d := by omega
          rw [i2] at hp
          have : ((sideZ a b d : Int) : Rat) = 0 := by grind
          exact q0 (by rw [← Rat.intCast_zero, Rat.intCast_inj] at this; exact this)
        · have hs : s = 0 := zero_t _ s (by rw [r0] at hr; simp only [Rat.intCast_zero] at hr; grind) u0
          subst hs
          rw [on_zero] at h
          exact .inr (.inr (.inl ⟨r0, between_on t0 t1 h⟩))
      · by_cases u0 : sideZ c d b = 0
        · have hs : 1 - s = 0 := zero_t _ (1 - s) (by rw [u0] at hr; simp only [Rat.intCast_zero] at hr; grind) r0
          have hs : s = 1 := by grind
          subst hs
          rw [on_one] at h
          exact .inr (.inr (.inr ⟨u0, between_on t0 t1 h⟩))
        · exact .inl ⟨opp _ _ _ t0 t1 hp p0 q0, opp _ _ _ s0 s1 hr r0 u0⟩

/-- What the reference asks of a strip and a patch. -/
def someR (a b : Z2) (w : Int) (x : Box) : Bool := (cornersZ x).any (fun c => nearZ a b c w) || (endZ x w a || (endZ x w b ||
  (crossesZ a b (x.x0, x.y0) (x.x1, x.y1) || crossesZ a b (x.x1, x.y0) (x.x0, x.y1))))

theorem someR_iff {a b : Z2} {w : Int} {x : Box} (hx : x.ok) (hab : a ≠ b) : someR a b w x = true ↔ MeetS a b w x := by
  have m0 : (x.x0, x.y0) ∈ cornersZ x := by simp [cornersZ]
  have m1 : (x.x1, x.y0) ∈ cornersZ x := by simp [cornersZ]
  have m2 : (x.x1, x.y1) ∈ cornersZ x := by simp [cornersZ]
  have m3 : (x.x0, x.y1) ∈ cornersZ x := by simp [cornersZ]
  unfold someR
  simp only [Bool.or_eq_true, List.any_eq_true]
  constructor
  · rintro (⟨c, hc, h⟩ | h | h | h | h)
    · exact meet_corner hx hc h
    · exact meet_end hx (.inl rfl) h
    · exact meet_end hx (.inr rfl) h
    · exact crosses_meet hx hab m0 m2 h
    · exact crosses_meet hx hab m1 m3 h
  · intro h
    rcases meet_cases hx hab h with ⟨c, hc, h⟩ | h | h | ⟨t, t0, t1, h⟩
    · exact .inl ⟨c, hc, h⟩
    · exact .inr (.inl h)
    · exact .inr (.inr (.inl h))
    · by_cases ha : InBox x (toP a)
      · exact .inr (.inl ((end_iff hx).2 ⟨_, ha, by rw [dst_self]; exact wnn w⟩))
      by_cases hb : InBox x (toP b)
      · exact .inr (.inr (.inl ((end_iff hx).2 ⟨_, hb, by rw [dst_self]; exact wnn w⟩)))
      right; right; right
      obtain ⟨⟨c, hc, hc0⟩, d, hd, hd0⟩ := corners_sides h (side_ends _ _ _)
      -- a point of a diagonal on the line is between a and b
      have fin : ∀ c ∈ cornersZ x, ∀ d ∈ cornersZ x, 0 ≤ sideZ a b c → sideZ a b d ≤ 0 → ∃ u v : Rat, 0 ≤ u ∧ u ≤ 1 ∧ 0 ≤ v ∧ v ≤ 1 ∧ on (toP a) (toP b) u = on (toP c) (toP d) v := fun c hc d hd hc0 hd0 => by
        obtain ⟨v, v0, v1, hv⟩ := zero_between (cast_nn.2 hc0) (cast_np.2 hd0)
        have hz : side (toP a) (toP b) (on (toP c) (toP d) v) = 0 := by rw [side_on, side_cast, side_cast]; exact hv
        obtain ⟨u, hu⟩ := on_line (ne_toP hab) hz
        have hin : InBox x (on (toP a) (toP b) u) := by rw [← hu]; exact inBox_on v0 v1 (corner_in hx hc) (corner_in hx hd)
        refine ⟨u, v, ?_, ?_, v0, v1, hu.symm⟩
        · by_cases k : 0 ≤ u
          · exact k
          · exfalso
            -- a is between the two points
            refine ha ?_
            obtain ⟨z, hz⟩ := div_ex (n := -u) (d := t - u) (by grind)
            have : on (on (toP a) (toP b) u) (on (toP a) (toP b) t) z = toP a := by
              have e2 : on (on (toP a) (toP b) u) (on (toP a) (toP b) t) z = on (toP a) (toP b) (u + z * (t - u)) := by unfold on; simp only [Pt.mk.injEq]; constructor <;> grind
              rw [e2, show u + z * (t - u) = 0 by grind, on_zero]
            rw [← this]
            exact inBox_on (pos_of_mul (d := t - u) (by grind) (by grind)) (le_of_mul (d := t - u) (by grind) (by grind)) hin h
        · by_cases k : u ≤ 1
          · exact k
          · exfalso
            refine hb ?_
            obtain ⟨z, hz⟩ := div_ex (n := 1 - t) (d := u - t) (by grind)
            have : on (on (toP a) (toP b) t) (on (toP a) (toP b) u) z = toP b := by
              have e2 : on (on (toP a) (toP b) t) (on (toP a) (toP b) u) z = on (toP a) (toP b) (t + z * (u - t)) := by unfold on; simp only [Pt.mk.injEq]; constructor <;> grind
              rw [e2, show t + z * (u - t) = 1 by grind, on_one]
            rw [← this]
            exact inBox_on (pos_of_mul (d := u - t) (by grind) (by grind)) (le_of_mul (d := u - t) (by grind) (by grind)) h hin
      have sum : sideZ a b (x.x0, x.y0) + sideZ a b (x.x1, x.y1) = sideZ a b (x.x1, x.y0) + sideZ a b (x.x0, x.y1) := by unfold sideZ; grind
      have flip : ∀ (c d : Z2) (u v : Rat), 0 ≤ v → v ≤ 1 → on (toP a) (toP b) u = on (toP d) (toP c) v → ∃ v' : Rat, 0 ≤ v' ∧ v' ≤ 1 ∧ on (toP a) (toP b) u = on (toP c) (toP d) v' := fun c d u v v0 v1 e =>
        ⟨1 - v, by grind, by grind, by rw [e]; unfold on; simp only [Pt.mk.injEq]; constructor <;> grind⟩
      simp only [cornersZ, List.mem_cons, List.not_mem_nil, or_false] at hc hd
      have cs : (0 ≤ sideZ a b (x.x0, x.y0) ∧ sideZ a b (x.x1, x.y1) ≤ 0) ∨ (0 ≤ sideZ a b (x.x1, x.y1) ∧ sideZ a b (x.x0, x.y0) ≤ 0) ∨ (0 ≤ sideZ a b (x.x1, x.y0) ∧ sideZ a b (x.x0, x.y1) ≤ 0) ∨ (0 ≤ sideZ a b (x.x0, x.y1) ∧ sideZ a b (x.x1, x.y0) ≤ 0) := by
        rcases hc with rfl | rfl | rfl | rfl <;> rcases hd with rfl | rfl | rfl | rfl <;> omega
      rcases cs with ⟨k1, k2⟩ | ⟨k1, k2⟩ | ⟨k1, k2⟩ | ⟨k1, k2⟩
      · obtain ⟨u, v, u0, u1, v0, v1, e⟩ := fin _ m0 _ m2 k1 k2
        exact .inl (crosses_of hab u0 u1 v0 v1 e)
      · obtain ⟨u, v, u0, u1, v0, v1, e⟩ := fin _ m2 _ m0 k1 k2
        obtain ⟨v', v0', v1', e'⟩ := flip _ _ _ _ v0 v1 e
        exact .inl (crosses_of hab u0 u1 v0' v1' e')
      · obtain ⟨u, v, u0, u1, v0, v1, e⟩ := fin _ m1 _ m3 k1 k2
        exact .inr (crosses_of hab u0 u1 v0 v1 e)
      · obtain ⟨u, v, u0, u1, v0, v1, e⟩ := fin _ m3 _ m1 k1 k2
        obtain ⟨v', v0', v1', e'⟩ := flip _ _ _ _ v0 v1 e
        exact .inr (crosses_of hab u0 u1 v0' v1' e')

/-- A strip is convex. -/
theorem near_convex {a b p q : Pt} {r t : Rat} (t0 : 0 ≤ t) (t1 : t ≤ 1) (hp : Near a b p r) (hq : Near a b q r) : Near a b (on p q t) r := by
  obtain ⟨u, u0, u1, hu⟩ := hp
  obtain ⟨v, v0, v1, hv⟩ := hq
  refine ⟨u + t * (v - u), ?_, ?_, ?_⟩
  · have := mulnn t0 v0
    have := mulnn (show 0 ≤ 1 - t by grind) u0
    grind
  · have := mulnn t0 (show 0 ≤ 1 - v by grind)
    have := mulnn (show 0 ≤ 1 - t by grind) (show 0 ≤ 1 - u by grind)
    grind
  · have e : dst (on a b (u + t * (v - u))) (on p q t) = (1 - t) * dst (on a b u) p + t * dst (on a b v) q - t * (1 - t) * (((on a b u).x - p.x - ((on a b v).x - q.x)) * ((on a b u).x - p.x - ((on a b v).x - q.x)) + ((on a b u).y - p.y - ((on a b v).y - q.y)) * ((on a b u).y - p.y - ((on a b v).y - q.y))) := by
      unfold dst on; grind
    have e1 := mulnn (show 0 ≤ 1 - t by grind) (show 0 ≤ r - dst (on a b u) p by grind)
    have e2 := mulnn t0 (show 0 ≤ r - dst (on a b v) q by grind)
    have e3 := mulnn (mulnn t0 (show 0 ≤ 1 - t by grind)) (show 0 ≤ (((on a b u).x - p.x - ((on a b v).x - q.x)) * ((on a b u).x - p.x - ((on a b v).x - q.x)) + ((on a b u).y - p.y - ((on a b v).y - q.y)) * ((on a b u).y - p.y - ((on a b v).y - q.y))) by
      have := sqnn ((on a b u).x - p.x - ((on a b v).x - q.x))
      have := sqnn ((on a b u).y - p.y - ((on a b v).y - q.y))
      grind)
    grind
end Go.Proofs.Geo
