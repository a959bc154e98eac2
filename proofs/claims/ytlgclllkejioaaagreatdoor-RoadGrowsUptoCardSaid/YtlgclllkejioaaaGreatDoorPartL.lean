/- Part of the proofs about the layer of roads: What the answers about a patch say of its points. Halves and points of patches: plain laws. The statement RoadHalves, walked. MADE BY gen_op3.py: more types of arguments, opened. -/
import Derived.Test.YtlgclllkejioaaaGreatDoorPartK
set_option linter.unusedVariables false
set_option linter.unusedSimpArgs false

/- What the answers about a patch say of its points. -/
namespace Go.Proofs.Am
open Go Go.Proofs.Geo
set_option maxRecDepth 100000

/-- An answer 0, 1 or 2 about patches: 0: no set has a point of the patch; 2: one of them has all points. -/
structure Area (K : Pa → Int) (F : Nat → Pt → Prop) (n : Nat) : Prop where
  none : ∀ p, roughB p = false → (K p = 0 ↔ ∀ k, k < n → ∀ q, InBox (box1 p) q → ¬ F k q)
  all : ∀ p, roughB p = false → (K p = 2 ↔ ∃ k, k < n ∧ ∀ q, InBox (box1 p) q → F k q)
  rng : ∀ p, K p = 0 ∨ K p = 1 ∨ K p = 2
theorem box1_ok {p : Pa} (h : roughB p = false) : (box1 p).ok := by
  have := (rough_ok h).2
  simp only [Box.ok] at *
  omega

theorem area_of {K : Pa → Int} {n : Nat} {A S : Nat → Pa → Bool} {F : Nat → Pt → Prop} (hK : ∀ p, roughB p = false → K p = if (List.range n).any (fun k => A k p) then 2 else if (List.range n).any (fun k => S k p) then 1 else 0) (hr : ∀ p, K p = 0 ∨ K p = 1 ∨ K p = 2)
    (hA : ∀ p, roughB p = false → ∀ k, k < n → (A k p = true ↔ ∀ q, InBox (box1 p) q → F k q)) (hS : ∀ p, roughB p = false → ∀ k, k < n → (S k p = true ↔ ∃ q, InBox (box1 p) q ∧ F k q)) : Area K F n where
  none := fun p hp => by
    have cin : InBox (box1 p) (toP (p.x0, p.y0)) := corner_in (box1_ok hp) (by simp [cornersZ])
    rw [hK p hp]
    constructor
    · intro h k hk q hq hF
      have hs : (List.range n).any (fun k => S k p) = true := List.any_eq_true.2 ⟨k, List.mem_range.2 hk, (hS p hp k hk).2 ⟨q, hq, hF⟩⟩
      rw [hs] at h
      split at h <;> simp at h
    · intro h
      have h1 : (List.range n).any (fun k => A k p) = false := by
        rw [List.any_eq_false]; intro k hk ha
        exact h k (List.mem_range.1 hk) _ cin ((hA p hp k (List.mem_range.1 hk)).1 ha _ cin)
      have h2 : (List.range n).any (fun k => S k p) = false := by
        rw [List.any_eq_false]; intro k hk hs
        obtain ⟨q, hq, hF⟩ := (hS p hp k (List.mem_range.1 hk)).1 hs
        exact h k (List.mem_range.1 hk) q hq hF
      rw [h1, h2]; rfl
  all := fun p hp => by
    rw [hK p hp]
    constructor
    · intro h
      split at h
      · rename_i ha
        obtain ⟨k, hk, ha⟩ := List.any_eq_true.1 ha
        exact ⟨k, List.mem_range.1 hk, (hA p hp k (List.mem_range.1 hk)).1 ha⟩
      · split at h <;> simp at h
    · rintro ⟨k, hk, h⟩
      have h1 : (List.range n).any (fun k => A k p) = true := List.any_eq_true.2 ⟨k, List.mem_range.2 hk, (hA p hp k hk).2 h⟩
      rw [h1]; rfl
  rng := hr

/-- Doubled points. -/
def two (q : Pt) : Pt := ⟨2 * q.x, 2 * q.y⟩
def half (q : Pt) : Pt := ⟨q.x / 2, q.y / 2⟩
theorem two_half (q : Pt) : two (half q) = q := by
  unfold two half; cases q; simp only [Pt.mk.injEq]; constructor <;> grind
theorem in_two {p : Pa} {q : Pt} : InBox (box1 p) q ↔ InBox (bx p) (two q) := by
  unfold InBox two
  simp only [Rat.intCast_mul]
  constructor
  · rintro ⟨a, b, c, d⟩; exact ⟨by grind, by grind, by grind, by grind⟩
  · rintro ⟨a, b, c, d⟩; exact ⟨by grind, by grind, by grind, by grind⟩
/-- A point is on a piece of a road. -/
def OnK (r : Rd) (k : Nat) (q : Pt) : Prop := Near (toP (pcA r k)) (toP (pcB r k)) (two q) ((r.width : Rat) * r.width)
theorem allP_iff {a b : Int × Int} {w : Int} {x : Box} (hx : x.ok) : allP a b w x = true ↔ ∀ q, InBox x q → Near (toP a) (toP b) q ((w : Rat) * w) := by
  unfold allP
  rw [List.all_eq_true]
  constructor
  · intro h q hq
    refine box_convex (b := x) (Q := fun q => Near (toP a) (toP b) q ((w : Rat) * w)) (fun p q t t0 t1 h1 h2 => near_convex t0 t1 h1 h2) (fun c hc => (nearZ_iff ..).1 (h c hc)) hq
  · intro h c hc
    exact (nearZ_iff ..).2 (h _ (corner_in hx hc))
theorem someN_any (r : Rd) (x : Box) : ∀ n, someN r x n = (List.range n).any fun k => someR (pcA r k) (pcB r k) r.width x
  | 0 => rfl
  | n + 1 => by rw [someN, someN_any r x n, List.range_succ, List.any_append]; simp
theorem meets_rng (r : Rd) (x : Box) : rmeetsZ r x = 0 ∨ rmeetsZ r x = 1 ∨ rmeetsZ r x = 2 := by
  unfold rmeetsZ; split
  · simp
  · split <;> simp
theorem meets_area {r : Rd} (hr : RdOk r) : Area (fun p => rmeetsZ r (bx p)) (OnK r) (r.pts.length - 1) := by
  refine area_of (A := fun k p => allP (pcA r k) (pcB r k) r.width (bx p)) (S := fun k p => someR (pcA r k) (pcB r k) r.width (bx p)) (fun p _ => ?_) (fun p => meets_rng r _) (fun p hp k hk => ?_) (fun p hp k hk => ?_)
  · show rmeetsZ r (bx p) = _
    unfold rmeetsZ allN
    rw [someN_any]
  · have hx := (rough_ok hp).2
    rw [allP_iff hx]
    constructor
    · intro h q hq; exact h _ (in_two.1 hq)
    · intro h q hq
      have := h (half q) (in_two.2 (by rw [two_half]; exact hq))
      unfold OnK at this
      rwa [two_half] at this
  · have hx := (rough_ok hp).2
    rw [someR_iff hx (hr.ne k (by omega))]
    constructor
    · rintro ⟨q, hq, h⟩
      exact ⟨half q, in_two.2 (by rw [two_half]; exact hq), by unfold OnK; rw [two_half]; exact h⟩
    · rintro ⟨q, hq, h⟩
      exact ⟨two q, in_two.1 hq, h⟩
theorem on_iff {r : Rd} {x y : Int} : onZ r x y = true ↔ ∃ k, k < r.pts.length - 1 ∧ OnK r k (toP (x, y)) := by
  unfold onZ onN
  rw [List.any_eq_true]
  have e : two (toP (x, y)) = toP (2 * x, 2 * y) := by unfold two toP; simp only [Rat.intCast_mul]; rfl
  constructor
  · rintro ⟨k, hk, h⟩
    exact ⟨k, List.mem_range.1 hk, by unfold OnK; rw [e]; exact (nearZ_iff ..).1 h⟩
  · rintro ⟨k, hk, h⟩
    unfold OnK at h
    rw [e] at h
    exact ⟨k, List.mem_range.2 hk, (nearZ_iff ..).2 h⟩

theorem leZ_tr (a b c : Int × Int) (h1 : leZ a b = true) (h2 : leZ b c = true) : leZ a c = true := by
  unfold leZ at *
  simp only [Bool.or_eq_true, Bool.and_eq_true, decide_eq_true_eq] at *
  omega
theorem leZ_tot (a b : Int × Int) : (leZ a b || leZ b a) = true := by
  unfold leZ
  simp only [Bool.or_eq_true, Bool.and_eq_true, decide_eq_true_eq]
  omega
theorem touch_sr {S : List (Int × Int)} (hS : S ≠ []) {m : Int × Int} {r : Int} (h : TouchS S m r) : TouchR S m r := by
  have hm : ∀ q, q ∈ S.mergeSort leZ ↔ q ∈ S := fun q => List.mem_mergeSort
  have hs : (S.mergeSort leZ).Pairwise (fun a b => leZ a b = true) := List.pairwise_mergeSort (fun a b c => leZ_tr a b c) (fun a b => leZ_tot a b) S
  have hne : S.mergeSort leZ ≠ [] := by
    intro e
    obtain ⟨x, hx⟩ := List.exists_mem_of_ne_nil S hS
    have := (hm x).2 hx
    rw [e] at this; cases this
  have hp := touch_sp hne hs (touchS_mem (fun q hq => (hm q).2 hq) h)
  rw [touchP_eq (S := S) (List.length_pos_iff.2 hne) hs hm] at hp
  exact touchRB_iff.1 hp
/-- A tree shades a point. -/
def ShadK (c : Cl) (ts : List Tr) (k : Nat) (q : Pt) : Prop := lowB c (ts.getD k default) = false ∧ ShadP (castC c (ts.getD k default)) q
theorem shadT_iff {c : Cl} {t : Tr} (hc : ClOk c) (ht : TrOk t) {p : Int × Int} : shadT c t p = true ↔ lowB c t = false ∧ ShadP (castC c t) (toP p) := by
  unfold shadT
  rw [Bool.and_eq_true, Bool.not_eq_true']
  constructor
  · rintro ⟨h1, h2⟩
    exact ⟨h1, (shaded_iff _ (ns_ok hc ht h1).2.2 p).1 h2⟩
  · rintro ⟨h1, h2⟩
    exact ⟨h1, (shaded_iff _ (ns_ok hc ht h1).2.2 p).2 h2⟩
theorem shadeN_eq (c : Cl) (ts : List Tr) (p : Pa) : ∀ n, shadeN c ts p n = if (List.range n).any (fun k => darkT c (ts.getD k default) p) then 2 else if (List.range n).any (fun k => touT c (ts.getD k default) p) then 1 else 0
  | 0 => rfl
  | n + 1 => by
    rw [shadeN, shadeN_eq c ts p n, List.range_succ, List.any_append, List.any_append]
    simp only [List.any_cons, List.any_nil, Bool.or_false, mx2_eq]
    generalize (List.range n).any (fun k => darkT c (ts.getD k default) p) = a
    generalize (List.range n).any (fun k => touT c (ts.getD k default) p) = b
    generalize darkT c (ts.getD n default) p = d
    generalize touT c (ts.getD n default) p = e
    revert a b d e
    decide
theorem shade_rng (c : Cl) (ts : List Tr) (p : Pa) : shadeZ c ts p = 0 ∨ shadeZ c ts p = 1 ∨ shadeZ c ts p = 2 := by
  unfold shadeZ; rw [shadeN_eq]; split
  · simp
  · split <;> simp
theorem shade_area {c : Cl} {ts : List Tr} (hc : ClOk c) (hts : ∀ k, k < ts.length → TrOk (ts.getD k default)) : Area (shadeZ c ts) (ShadK c ts) ts.length := by
  refine area_of (A := fun k p => darkT c (ts.getD k default) p) (S := fun k p => touT c (ts.getD k default) p) (fun p _ => shadeN_eq c ts p _) (shade_rng c ts) (fun p hp k hk => ?_) (fun p hp k hk => ?_)
  · have hb := box1_ok hp
    unfold darkT
    rw [List.all_eq_true]
    constructor
    · intro h q hq
      have h0 := (shadT_iff hc (hts k hk)).1 (h (p.x0, p.y0) (by simp [l4]))
      refine ⟨h0.1, box_convex (b := box1 p) (Q := ShadP (castC c (ts.getD k default))) (fun p q t t0 t1 h1 h2 => shad_convex (ns_ok hc (hts k hk) h0.1).1.1 t0 t1 h1 h2) (fun x hx => ((shadT_iff hc (hts k hk)).1 (h x ?_)).2) hq⟩
      exact hx
    · intro h x hx
      exact (shadT_iff hc (hts k hk)).2 (h (toP x) (corner_in hb hx))
  · have hb := box1_ok hp
    unfold touT ShadK
    rw [Bool.and_eq_true, Bool.not_eq_true']
    constructor
    · rintro ⟨h1, h2⟩
      obtain ⟨n0, n1, n2⟩ := ns_ok hc (hts k hk) h1
      obtain ⟨q, hq, hs⟩ := (touch_iff hb n0.1 n2).1 (touch_rs (touchRB_iff.1 h2))
      exact ⟨q, hq, h1, hs⟩
    · rintro ⟨q, hq, h1, hs⟩
      obtain ⟨n0, n1, n2⟩ := ns_ok hc (hts k hk) h1
      refine ⟨h1, touchRB_iff.2 ?_⟩
      exact touch_sr (by unfold eight cornersZ; simp) ((touch_iff hb n0.1 n2).2 ⟨q, hq, hs⟩)
end Go.Proofs.Am

/- Halves and points of patches: plain laws. -/
namespace Go.Proofs.Am
open Go Go.Proofs.Geo
set_option maxRecDepth 100000

/-- Two patches that together are a third one. -/
structure Halves (p a b : Pa) : Prop where
  pr : roughB p = false
  ar : roughB a = false
  br : roughB b = false
  cut : ∀ q, InBox (box1 p) q ↔ InBox (box1 a) q ∨ InBox (box1 b) q
theorem Area.halves {K : Pa → Int} {F : Nat → Pt → Prop} {n : Nat} (h : Area K F n) {p a b : Pa} (hh : Halves p a b) : (K p = 0 ↔ K a = 0 ∧ K b = 0) ∧ (K p = 2 → K a = 2 ∧ K b = 2) := by
  refine ⟨?_, fun h2 => ?_⟩
  · rw [h.none p hh.pr, h.none a hh.ar, h.none b hh.br]
    constructor
    · intro g
      exact ⟨fun k hk q hq => g k hk q ((hh.cut q).2 (.inl hq)), fun k hk q hq => g k hk q ((hh.cut q).2 (.inr hq))⟩
    · rintro ⟨g1, g2⟩ k hk q hq
      rcases (hh.cut q).1 hq with hq | hq
      · exact g1 k hk q hq
      · exact g2 k hk q hq
  · obtain ⟨k, hk, g⟩ := (h.all p hh.pr).1 h2
    exact ⟨(h.all a hh.ar).2 ⟨k, hk, fun q hq => g q ((hh.cut q).2 (.inl hq))⟩, (h.all b hh.br).2 ⟨k, hk, fun q hq => g q ((hh.cut q).2 (.inr hq))⟩⟩
theorem rough_iff {p : Pa} : roughB p = false ↔ (Bd 100000 p.x0 ∧ Bd 100000 p.y0 ∧ Bd 100000 p.x1 ∧ Bd 100000 p.y1) ∧ p.x0 ≤ p.x1 ∧ p.y0 ≤ p.y1 := by
  unfold roughB wildB farB outB
  simp only [List.any_cons, List.any_nil, Bool.or_false, Bool.or_eq_false_iff, decide_eq_false_iff_not]
  omega
def mid (a b : Int) : Int := w64 (a + w64 ((w64 (b - a)).tdiv 2))
theorem mid_eq {a b : Int} (ha : Bd 100000 a) (hb : Bd 100000 b) (h : a ≤ b) : a ≤ mid a b ∧ mid a b ≤ b := by
  obtain ⟨a1, a2⟩ := ha
  obtain ⟨b1, b2⟩ := hb
  unfold mid
  rw [w64_id (x := b - a) (by omega), Int.tdiv_eq_ediv_of_nonneg (by omega), w64_id (x := (b - a) / 2) (by omega), w64_id (by omega)]
  omega
theorem rat_cut {a m b x : Rat} (h1 : a ≤ m) (h2 : m ≤ b) : (a ≤ x ∧ x ≤ b) ↔ (a ≤ x ∧ x ≤ m) ∨ (m ≤ x ∧ x ≤ b) := by grind
theorem halves_x {p : Pa} (h : roughB p = false) : Halves p ⟨p.x0, p.y0, mid p.x0 p.x1, p.y1⟩ ⟨mid p.x0 p.x1, p.y0, p.x1, p.y1⟩ := by
  obtain ⟨⟨a, b, c, d⟩, e, f⟩ := rough_iff.1 h
  obtain ⟨m1, m2⟩ := mid_eq a c e
  refine ⟨h, rough_iff.2 ⟨⟨a, b, ⟨by simp only; omega, by simp only; omega⟩, d⟩, m1, f⟩, rough_iff.2 ⟨⟨⟨by simp only; omega, by simp only; omega⟩, b, c, d⟩, m2, f⟩, fun q => ?_⟩
  have m1 := cast_le.2 m1
  have m2 := cast_le.2 m2
  unfold InBox
  simp only
  have := rat_cut (x := q.x) m1 m2
  grind
theorem halves_y {p : Pa} (h : roughB p = false) : Halves p ⟨p.x0, p.y0, p.x1, mid p.y0 p.y1⟩ ⟨p.x0, mid p.y0 p.y1, p.x1, p.y1⟩ := by
  obtain ⟨⟨a, b, c, d⟩, e, f⟩ := rough_iff.1 h
  obtain ⟨m1, m2⟩ := mid_eq b d f
  refine ⟨h, rough_iff.2 ⟨⟨a, b, c, ⟨by simp only; omega, by simp only; omega⟩⟩, e, m1⟩, rough_iff.2 ⟨⟨a, ⟨by simp only; omega, by simp only; omega⟩, c, d⟩, e, m2⟩, fun q => ?_⟩
  have m1 := cast_le.2 m1
  have m2 := cast_le.2 m2
  unfold InBox
  simp only
  have := rat_cut (x := q.y) m1 m2
  grind

/-- The answers of Meets and of Shade for halves of a patch. -/
def aH (p : Pa) (q : Bool) : Pa := if q then ⟨p.x0, p.y0, mid p.x0 p.x1, p.y1⟩ else ⟨p.x0, p.y0, p.x1, mid p.y0 p.y1⟩
def bH (p : Pa) (q : Bool) : Pa := if q then ⟨mid p.x0 p.x1, p.y0, p.x1, p.y1⟩ else ⟨p.x0, mid p.y0 p.y1, p.x1, p.y1⟩
theorem halves_of {p : Pa} (h : roughB p = false) (q : Bool) : Halves p (aH p q) (bH p q) := by
  cases q
  · exact halves_y h
  · exact halves_x h
/-- Meets at patches as stated: the error is the same; without one, the answers are those of an area. -/
theorem meetsS_of {s : Sc} {i : Int} : (∃ e, ∀ p, roughB p = false → meetsS s i p = (0, e)) ∨ ∃ K F n, Area K F n ∧ (∀ p, roughB p = false → meetsS s i p = (K p, 0)) ∧ ∀ x y, wildB [x, y] = false → (onS s i x y = (true, 0) ∧ ∃ k, k < n ∧ F k (toP (x, y))) ∨ (onS s i x y = (false, 0) ∧ ∀ k, k < n → ¬ F k (toP (x, y))) := by
  by_cases h : idxE s i s.roads.length = 0
  · right
    obtain ⟨g, i0, i1⟩ := idxE_zero h
    have hr := (good_ok g).rd i.toNat (by omega)
    have hb : (idxE s i s.roads.length == 0) = true := by rw [h]; rfl
    refine ⟨_, _, _, meets_area hr, fun p hp => ?_, fun x y hxy => ?_⟩
    · unfold meetsS errS; rw [hb, hp, meetsZ_eq hr (rough_ok hp).2]; rfl
    · have e : onS s i x y = (onZ (s.roads.getD i.toNat default) x y, 0) := by unfold onS errS; rw [hb, hxy]; rfl
      rw [e]
      cases hz : onZ (s.roads.getD i.toNat default) x y with
      | true => exact .inl ⟨rfl, on_iff.1 hz⟩
      | false => exact .inr ⟨rfl, fun k hk hF => by rw [on_iff.2 ⟨k, hk, hF⟩] at hz; cases hz⟩
  · left
    have hb : (idxE s i s.roads.length == 0) = false := by simpa using h
    exact ⟨idxE s i s.roads.length, fun p _ => by unfold meetsS; rw [errS_1 hb, hb]; rfl⟩
theorem idx_some {α : Type} {p : α → Bool} {l : List α} {d : α} : (0 ≤ idx p l ∧ ∃ k, k < l.length ∧ p (l.getD k d) = true) ∨ (idx p l = -1 ∧ ∀ k, k < l.length → p (l.getD k d) = false) := by
  unfold idx
  cases h : l.findIdx? p with
  | none =>
    right
    rw [List.findIdx?_eq_none_iff] at h
    exact ⟨rfl, fun k hk => h _ (getD_mem hk)⟩
  | some i =>
    left
    obtain ⟨hi, hp, _⟩ := List.findIdx?_eq_some_iff_getElem.1 h
    refine ⟨by simp, i, hi, ?_⟩
    rwa [List.getD_eq_getElem?_getD, List.getElem?_eq_getElem hi]
theorem shadeS_of {s : Sc} {i : Int} : (∃ e, e ≠ 0 ∧ (∀ p, roughB p = false → shadeS s i p = (0, e)) ∧ ∀ x y, shadedS s i x y = (0, e)) ∨ ∃ K F n, Area K F n ∧ (∀ p, roughB p = false → shadeS s i p = (K p, 0)) ∧
    ∀ x y, wildB [x, y] = false → (shadedS s i x y).2 = 0 ∧ ((0 ≤ (shadedS s i x y).1 ∧ ∃ k, k < n ∧ F k (toP (x, y))) ∨ ((shadedS s i x y).1 = -1 ∧ ∀ k, k < n → ¬ F k (toP (x, y)))) := by
  by_cases h : idxE s i s.cols.length = 0
  · right
    obtain ⟨g, i0, i1⟩ := idxE_zero h
    have ok := good_ok g
    have hc := ok.col i0 i1
    have hb : (idxE s i s.cols.length == 0) = true := by rw [h]; rfl
    refine ⟨_, _, _, shade_area hc ok.tr, fun p hp => ?_, fun x y hxy => ?_⟩
    · unfold shadeS errS; rw [hb, hp]; rfl
    · have e : shadedS s i x y = (idx (fun t => shadT (colOf s i) t (x, y)) s.trees, 0) := by unfold shadedS errS; rw [hb, hxy]; rfl
      rw [e]
      refine ⟨rfl, ?_⟩
      rcases idx_some (p := fun t => shadT (colOf s i) t (x, y)) (l := s.trees) (d := default) with ⟨h1, k, hk, hs⟩ | ⟨h1, h2⟩
      · exact .inl ⟨h1, k, hk, (shadT_iff hc (ok.tr k hk)).1 hs⟩
      · exact .inr ⟨h1, fun k hk hF => by have := h2 k hk; rw [(shadT_iff hc (ok.tr k hk)).2 hF] at this; cases this⟩
  · left
    have hb : (idxE s i s.cols.length == 0) = false := by simpa using h
    exact ⟨idxE s i s.cols.length, h, fun p _ => by unfold shadeS; rw [errS_1 hb, hb]; rfl, fun x y => by unfold shadedS; rw [errS_1 hb, hb]; rfl⟩
end Go.Proofs.Am

/- The statement RoadHalves, walked. -/
namespace Go.Proofs.Am
open Go Go.Proofs.Geo
set_option maxRecDepth 100000

structure In where
  i : Int
  p : Pa
  ax : Int
  ay : Int
abbrev inA (a : In) : AV := .agg [I a.i, I a.p.x0, I a.p.y0, I a.p.x1, I a.p.y1, .v (.int .u8 a.ax), .v (.int .u8 a.ay)]
noncomputable abbrev fsLB : List (Nat × Func) := [(20, Tryz.f20), (21, Tryz.f21), (4, Tryz.f4), (6, Tryz.f6)]
theorem cLB : CtxOK Tryz.prog (ctx [] fsLB) := ctx_ok (show FsOK Tryz.prog fsLB from ⟨Tryz.func20, Tryz.call20, Tryz.func21, Tryz.call21, Tryz.func4, Tryz.call4, Tryz.func6, Tryz.call6, trivial⟩) rfl
def part (a b n : Int) : Int := w64 (a + w64 ((w64 (w64 (b - a) * w64 n)).tdiv 255))
theorem rough_six (p : Pa) : roughB p = (decide (p.x0 < -100000) || (decide (p.y0 < -100000) || (decide (p.x1 > 100000) || (decide (p.y1 > 100000) || (decide (p.x0 > p.x1) || decide (p.y0 > p.y1)))))) := by
  unfold roughB wildB farB outB
  simp only [List.any_cons, List.any_nil, Bool.or_false]
  rw [Bool.eq_iff_iff]
  simp only [Bool.or_eq_true, decide_eq_true_eq]
  omega
theorem patched_fun (a : In) : Fun Tryz.prog 20 [inA a] (if roughB a.p then .tup [I 0, I 0, B false] else .tup [I (part a.p.x0 a.p.x1 a.ax), I (part a.p.y0 a.p.y1 a.ay), B true]) := by
  obtain ⟨i, p, ax, ay⟩ := a
  show Fun Tryz.prog 20 _ (if roughB p then _ else _)
  rw [rough_six]
  refine Fun.of_run cLB rfl ?_
  refine Rn.ite (b := decide (p.x0 < -100000)) 1000 rfl (fun h1 => ?_) (fun h1 => ?_)
  · exact Rn.ret 1000 rfl rfl (by rw [h1]; rfl)
  refine Rn.ite (b := decide (p.y0 < -100000)) 1000 rfl (fun h2 => ?_) (fun h2 => ?_)
  · exact Rn.ret 1000 rfl rfl (by rw [h1, h2]; rfl)
  refine Rn.ite (b := decide (p.x1 > 100000)) 1000 rfl (fun h3 => ?_) (fun h3 => ?_)
  · exact Rn.ret 1000 rfl rfl (by rw [h1, h2, h3]; rfl)
  refine Rn.ite (b := decide (p.y1 > 100000)) 1000 rfl (fun h4 => ?_) (fun h4 => ?_)
  · exact Rn.ret 1000 rfl rfl (by rw [h1, h2, h3, h4]; rfl)
  refine Rn.ite (b := decide (p.x0 > p.x1)) 1000 rfl (fun h5 => ?_) (fun h5 => ?_)
  · exact Rn.ret 1000 rfl rfl (by rw [h1, h2, h3, h4, h5]; rfl)
  refine Rn.ite (b := decide (p.y0 > p.y1)) 1000 rfl (fun h6 => ?_) (fun h6 => ?_)
  · exact Rn.ret 1000 rfl rfl (by rw [h1, h2, h3, h4, h5, h6]; rfl)
  refine Rn.chk 1000 rfl (by kernel_rfl) ?_
  exact Rn.ret 1000 rfl rfl (by rw [h1, h2, h3, h4, h5, h6]; rfl)
theorem halves_fun (p : Pa) (q : Bool) : Fun Tryz.prog 21 [paA p, B q] (.tup [paA (aH p q), paA (bH p q)]) := by
  refine Fun.of_run cLB rfl ?_
  refine Rn.chk 1000 rfl (by kernel_rfl) ?_
  refine Rn.ite (b := q) 1000 rfl (fun h => ?_) (fun h => ?_)
  · refine Rn.chk 1000 rfl (by kernel_rfl) ?_
    exact Rn.ret 1000 rfl rfl (by rw [h]; rfl)
  · refine Rn.chk 1000 rfl (by kernel_rfl) ?_
    exact Rn.ret 1000 rfl rfl (by rw [h]; rfl)

theorem bad_none {m n o : Int} (f : m = 0 ↔ n = 0 ∧ o = 0) : (m == 0) = ((n == 0) && (o == 0)) := by rw [Bool.eq_iff_iff]; simp [f]
set_option maxHeartbeats 1600000 in
theorem roadHalves_fun (s : Sc) (hs : s.ok) (a : In) (q : Bool) : Fun Tryz.prog 4 [scA s, inA a, B q] (B true) := by
  refine Fun.of_run cLB rfl ?_
  cases hr : roughB a.p with
  | true =>
    have k := patched_fun a
    rw [hr] at k
    refine Rn.call 1000 rfl _ k ?_
    refine Rn.ite (b := !false) 1000 rfl (fun h => ?_) (fun h => by cases h)
    refine Rn.call 1000 rfl _ awake_fun ?_
    exact Rn.ret 1000 rfl rfl rfl
  | false =>
    have k := patched_fun a
    rw [hr] at k
    have hh := halves_of hr q
    refine Rn.call 1000 rfl _ k ?_
    refine Rn.ite (b := !true) 1000 rfl (fun h => by cases h) (fun h => ?_)
    refine Rn.call 1000 rfl _ (halves_fun a.p q) ?_
    obtain ⟨⟨m0, m1⟩, em⟩ : ∃ m, m = meetsS s a.i a.p := ⟨_, rfl⟩
    obtain ⟨⟨n0, n1⟩, en⟩ : ∃ m, m = meetsS s a.i (aH a.p q) := ⟨_, rfl⟩
    obtain ⟨⟨o0, o1⟩, eo⟩ : ∃ m, m = meetsS s a.i (bH a.p q) := ⟨_, rfl⟩
    obtain ⟨⟨u0, u1⟩, eu⟩ : ∃ m, m = shadeS s a.i a.p := ⟨_, rfl⟩
    obtain ⟨⟨v0, v1⟩, ev⟩ : ∃ m, m = shadeS s a.i (aH a.p q) := ⟨_, rfl⟩
    obtain ⟨⟨z0, z1⟩, ez⟩ : ∃ m, m = shadeS s a.i (bH a.p q) := ⟨_, rfl⟩
    have fm : (m1 = n1 ∧ m1 = o1) ∧ ((m0 = 0 ↔ n0 = 0 ∧ o0 = 0) ∧ (m0 = 2 → n0 = 2 ∧ o0 = 2)) := by
      rcases meetsS_of (s := s) (i := a.i) with ⟨e, he⟩ | ⟨K, F, n, hK, he, _⟩
      · rw [he _ hh.pr] at em; rw [he _ hh.ar] at en; rw [he _ hh.br] at eo
        cases em; cases en; cases eo; simp
      · rw [he _ hh.pr] at em; rw [he _ hh.ar] at en; rw [he _ hh.br] at eo
        cases em; cases en; cases eo
        exact ⟨⟨rfl, rfl⟩, hK.halves hh⟩
    have fs : (u1 = v1 ∧ u1 = z1) ∧ ((u0 = 0 ↔ v0 = 0 ∧ z0 = 0) ∧ (u0 = 2 → v0 = 2 ∧ z0 = 2)) := by
      rcases shadeS_of (s := s) (i := a.i) with ⟨e, _, he, _⟩ | ⟨K, F, n, hK, he, _⟩
      · rw [he _ hh.pr] at eu; rw [he _ hh.ar] at ev; rw [he _ hh.br] at ez
        cases eu; cases ev; cases ez; simp
      · rw [he _ hh.pr] at eu; rw [he _ hh.ar] at ev; rw [he _ hh.br] at ez
        cases eu; cases ev; cases ez
        exact ⟨⟨rfl, rfl⟩, hK.halves hh⟩
    have k1 := (Meets_fun s hs a.i a.p).as (r' := .tup [I m0, I m1]) (by rw [← em])
    have k2 := (Meets_fun s hs a.i (aH a.p q)).as (r' := .tup [I n0, I n1]) (by rw [← en])
    have k3 := (Meets_fun s hs a.i (bH a.p q)).as (r' := .tup [I o0, I o1]) (by rw [← eo])
    have k4 := (Shade_fun s hs a.i a.p).as (r' := .tup [I u0, I u1]) (by rw [← eu])
    have k5 := (Shade_fun s hs a.i (aH a.p q)).as (r' := .tup [I v0, I v1]) (by rw [← ev])
    have k6 := (Shade_fun s hs a.i (bH a.p q)).as (r' := .tup [I z0, I z1]) (by rw [← ez])
    clear em en eo eu ev ez k h
    generalize aH a.p q = pa at *
    generalize bH a.p q = pb at *
    obtain ⟨⟨rfl, rfl⟩, f1, f2⟩ := fm
    obtain ⟨⟨rfl, rfl⟩, g1, g2⟩ := fs
    refine Rn.call 1000 rfl _ k1 ?_
    refine Rn.call 1000 rfl _ k2 ?_
    refine Rn.call 1000 rfl _ k3 ?_
    clear k1 k2 k3
    have ab : ∀ x : Int, (!(x == x)) = true → False := fun x h => by simp at h
    have ab2 : ∀ x : Int, (x == x) = false → False := fun x h => by simp at h
    refine Rn.ite (b := !(m1 == m1)) 1000 rfl (fun h => (ab _ h).elim) (fun _ => ?_)
    refine Rn.ite (b := !(m1 == m1)) 1000 rfl (fun h => (ab _ h).elim) (fun _ => ?_)
    have b1 := bad_none f1
    have bad2 : (m0 == 2) = true → ((n0 != m0) || (o0 != m0)) = true → False := fun h1 h2 => by
      have e := eq_of_beq h1
      obtain ⟨a1, a2⟩ := f2 e
      subst e; subst a1; subst a2
      simp at h2
    clear f1 f2
    have b2 := bad_none g1
    clear g1 hh hr
    refine Rn.ite (b := n0 == 0) 1000 rfl (fun c1 => ?_) (fun c1 => ?_)
    · refine Rn.ite (b := !((m0 == 0) == (o0 == 0))) 1000 rfl (fun c2 => ?_) (fun c2 => ?_)
      · rw [c1, Bool.true_and] at b1; rw [b1] at c2; simp at c2
      refine Rn.ite (b := m0 == 2) 1000 rfl (fun c3 => ?_) (fun c3 => ?_)
      · refine Rn.ite (b := n0 != m0) 1000 rfl (fun c4 => ?_) (fun c4 => ?_)
        · exact (bad2 c3 (by rw [c4]; rfl)).elim
        refine Rn.ite (b := o0 != m0) 1000 rfl (fun c5 => ?_) (fun c5 => ?_)
        · exact (bad2 c3 (by rw [c5]; simp)).elim
        refine Rn.call 1000 rfl _ k4 ?_
        refine Rn.call 1000 rfl _ k5 ?_
        refine Rn.call 1000 rfl _ k6 ?_
        refine Rn.ite (b := u1 == u1) 1000 rfl (fun _ => ?_) (fun h => (ab2 _ h).elim)
        refine Rn.ite (b := u1 == u1) 1000 rfl (fun _ => ?_) (fun h => (ab2 _ h).elim)
        refine Rn.ite (b := v0 == 0) 1000 rfl (fun d1 => ?_) (fun d1 => ?_)
        · rw [d1, Bool.true_and] at b2
          refine Rn.ite (b := (u0 == 0) == (z0 == 0)) 1000 rfl (fun _ => ?_) (fun d2 => by rw [b2] at d2; simp at d2)
          refine Rn.ite (b := u0 != 2) 1000 rfl (fun _ => ?_) (fun d3 => ?_)
          · refine Rn.call 1000 rfl _ awake_fun ?_
            exact Rn.ret 1000 rfl rfl rfl
          · have hu : u0 = 2 := by simpa using d3
            refine Rn.ite (b := v0 == u0) 1000 rfl (fun _ => ?_) (fun d4 => by have := g2 hu; simp [this.1, hu] at d4)
            refine Rn.ite (b := z0 == u0) 1000 rfl (fun _ => ?_) (fun d4 => by have := g2 hu; simp [this.2, hu] at d4)
            refine Rn.call 1000 rfl _ awake_fun ?_
            exact Rn.ret 1000 rfl rfl rfl
        · rw [d1, Bool.false_and] at b2
          refine Rn.ite (b := (u0 == 0) == false) 1000 rfl (fun _ => ?_) (fun d2 => by rw [b2] at d2; simp at d2)
          refine Rn.ite (b := u0 != 2) 1000 rfl (fun _ => ?_) (fun d3 => ?_)
          · refine Rn.call 1000 rfl _ awake_fun ?_
            exact Rn.ret 1000 rfl rfl rfl
          · have hu : u0 = 2 := by simpa using d3
            refine Rn.ite (b := v0 == u0) 1000 rfl (fun _ => ?_) (fun d4 => by have := g2 hu; simp [this.1, hu] at d4)
            refine Rn.ite (b := z0 == u0) 1000 rfl (fun _ => ?_) (fun d4 => by have := g2 hu; simp [this.2, hu] at d4)
            refine Rn.call 1000 rfl _ awake_fun ?_
            exact Rn.ret 1000 rfl rfl rfl
      · refine Rn.call 1000 rfl _ k4 ?_
        refine Rn.call 1000 rfl _ k5 ?_
        refine Rn.call 1000 rfl _ k6 ?_
        refine Rn.ite (b := u1 == u1) 1000 rfl (fun _ => ?_) (fun h => (ab2 _ h).elim)
        refine Rn.ite (b := u1 == u1) 1000 rfl (fun _ => ?_) (fun h => (ab2 _ h).elim)
        refine Rn.ite (b := v0 == 0) 1000 rfl (fun d1 => ?_) (fun d1 => ?_)
        · rw [d1, Bool.true_and] at b2
          refine Rn.ite (b := (u0 == 0) == (z0 == 0)) 1000 rfl (fun _ => ?_) (fun d2 => by rw [b2] at d2; simp at d2)
          refine Rn.ite (b := u0 != 2) 1000 rfl (fun _ => ?_) (fun d3 => ?_)
          · refine Rn.call 1000 rfl _ awake_fun ?_
            exact Rn.ret 1000 rfl rfl rfl
          · have hu : u0 = 2 := by simpa using d3
            refine Rn.ite (b := v0 == u0) 1000 rfl (fun _ => ?_) (fun d4 => by have := g2 hu; simp [this.1, hu] at d4)
            refine Rn.ite (b := z0 == u0) 1000 rfl (fun _ => ?_) (fun d4 => by have := g2 hu; simp [this.2, hu] at d4)
            refine Rn.call 1000 rfl _ awake_fun ?_
            exact Rn.ret 1000 rfl rfl rfl
        · rw [d1, Bool.false_and] at b2
          refine Rn.ite (b := (u0 == 0) == false) 1000 rfl (fun _ => ?_) (fun d2 => by rw [b2] at d2; simp at d2)
          refine Rn.ite (b := u0 != 2) 1000 rfl (fun _ => ?_) (fun d3 => ?_)
          · refine Rn.call 1000 rfl _ awake_fun ?_
            exact Rn.ret 1000 rfl rfl rfl
          · have hu : u0 = 2 := by simpa using d3
            refine Rn.ite (b := v0 == u0) 1000 rfl (fun _ => ?_) (fun d4 => by have := g2 hu; simp [this.1, hu] at d4)
            refine Rn.ite (b := z0 == u0) 1000 rfl (fun _ => ?_) (fun d4 => by have := g2 hu; simp [this.2, hu] at d4)
            refine Rn.call 1000 rfl _ awake_fun ?_
            exact Rn.ret 1000 rfl rfl rfl
    · refine Rn.ite (b := !((m0 == 0) == false)) 1000 rfl (fun c2 => ?_) (fun c2 => ?_)
      · rw [c1, Bool.false_and] at b1; rw [b1] at c2; simp at c2
      refine Rn.ite (b := m0 == 2) 1000 rfl (fun c3 => ?_) (fun c3 => ?_)
      · refine Rn.ite (b := n0 != m0) 1000 rfl (fun c4 => ?_) (fun c4 => ?_)
        · exact (bad2 c3 (by rw [c4]; rfl)).elim
        refine Rn.ite (b := o0 != m0) 1000 rfl (fun c5 => ?_) (fun c5 => ?_)
        · exact (bad2 c3 (by rw [c5]; simp)).elim
        refine Rn.call 1000 rfl _ k4 ?_
        refine Rn.call 1000 rfl _ k5 ?_
        refine Rn.call 1000 rfl _ k6 ?_
        refine Rn.ite (b := u1 == u1) 1000 rfl (fun _ => ?_) (fun h => (ab2 _ h).elim)
        refine Rn.ite (b := u1 == u1) 1000 rfl (fun _ => ?_) (fun h => (ab2 _ h).elim)
        refine Rn.ite (b := v0 == 0) 1000 rfl (fun d1 => ?_) (fun d1 => ?_)
        · rw [d1, Bool.true_and] at b2
          refine Rn.ite (b := (u0 == 0) == (z0 == 0)) 1000 rfl (fun _ => ?_) (fun d2 => by rw [b2] at d2; simp at d2)
          refine Rn.ite (b := u0 != 2) 1000 rfl (fun _ => ?_) (fun d3 => ?_)
          · refine Rn.call 1000 rfl _ awake_fun ?_
            exact Rn.ret 1000 rfl rfl rfl
          · have hu : u0 = 2 := by simpa using d3
            refine Rn.ite (b := v0 == u0) 1000 rfl (fun _ => ?_) (fun d4 => by have := g2 hu; simp [this.1, hu] at d4)
            refine Rn.ite (b := z0 == u0) 1000 rfl (fun _ => ?_) (fun d4 => by have := g2 hu; simp [this.2, hu] at d4)
            refine Rn.call 1000 rfl _ awake_fun ?_
            exact Rn.ret 1000 rfl rfl rfl
        · rw [d1, Bool.false_and] at b2
          refine Rn.ite (b := (u0 == 0) == false) 1000 rfl (fun _ => ?_) (fun d2 => by rw [b2] at d2; simp at d2)
          refine Rn.ite (b := u0 != 2) 1000 rfl (fun _ => ?_) (fun d3 => ?_)
          · refine Rn.call 1000 rfl _ awake_fun ?_
            exact Rn.ret 1000 rfl rfl rfl
          · have hu : u0 = 2 := by simpa using d3
            refine Rn.ite (b := v0 == u0) 1000 rfl (fun _ => ?_) (fun d4 => by have := g2 hu; simp [this.1, hu] at d4)
            refine Rn.ite (b := z0 == u0) 1000 rfl (fun _ => ?_) (fun d4 => by have := g2 hu; simp [this.2, hu] at d4)
            refine Rn.call 1000 rfl _ awake_fun ?_
            exact Rn.ret 1000 rfl rfl rfl
      · refine Rn.call 1000 rfl _ k4 ?_
        refine Rn.call 1000 rfl _ k5 ?_
        refine Rn.call 1000 rfl _ k6 ?_
        refine Rn.ite (b := u1 == u1) 1000 rfl (fun _ => ?_) (fun h => (ab2 _ h).elim)
        refine Rn.ite (b := u1 == u1) 1000 rfl (fun _ => ?_) (fun h => (ab2 _ h).elim)
        refine Rn.ite (b := v0 == 0) 1000 rfl (fun d1 => ?_) (fun d1 => ?_)
        · rw [d1, Bool.true_and] at b2
          refine Rn.ite (b := (u0 == 0) == (z0 == 0)) 1000 rfl (fun _ => ?_) (fun d2 => by rw [b2] at d2; simp at d2)
          refine Rn.ite (b := u0 != 2) 1000 rfl (fun _ => ?_) (fun d3 => ?_)
          · refine Rn.call 1000 rfl _ awake_fun ?_
            exact Rn.ret 1000 rfl rfl rfl
          · have hu : u0 = 2 := by simpa using d3
            refine Rn.ite (b := v0 == u0) 1000 rfl (fun _ => ?_) (fun d4 => by have := g2 hu; simp [this.1, hu] at d4)
            refine Rn.ite (b := z0 == u0) 1000 rfl (fun _ => ?_) (fun d4 => by have := g2 hu; simp [this.2, hu] at d4)
            refine Rn.call 1000 rfl _ awake_fun ?_
            exact Rn.ret 1000 rfl rfl rfl
        · rw [d1, Bool.false_and] at b2
          refine Rn.ite (b := (u0 == 0) == false) 1000 rfl (fun _ => ?_) (fun d2 => by rw [b2] at d2; simp at d2)
          refine Rn.ite (b := u0 != 2) 1000 rfl (fun _ => ?_) (fun d3 => ?_)
          · refine Rn.call 1000 rfl _ awake_fun ?_
            exact Rn.ret 1000 rfl rfl rfl
          · have hu : u0 = 2 := by simpa using d3
            refine Rn.ite (b := v0 == u0) 1000 rfl (fun _ => ?_) (fun d4 => by have := g2 hu; simp [this.1, hu] at d4)
            refine Rn.ite (b := z0 == u0) 1000 rfl (fun _ => ?_) (fun d4 => by have := g2 hu; simp [this.2, hu] at d4)
            refine Rn.call 1000 rfl _ awake_fun ?_
            exact Rn.ret 1000 rfl rfl rfl
end Go.Proofs.Am

/- MADE BY gen_op3.py: more types of arguments, opened. -/
namespace Go.Proofs.Am
open Go Go.ChangeShapes Go.WideShapes Go.RowKit
set_option maxRecDepth 100000
variable {H : Type} {enc : TypeId × Value → H} {W : World}
theorem cel5 : Tryz.prog.cellsOf 5 = 1 := by kernel_rfl
theorem cel39 : Tryz.prog.cellsOf 39 = 7 := by kernel_rfl
theorem op5 : Opens enc Tryz.prog W 5 (fun x : Int => [.v (.int .u8 x)]) (fun z => (Lit.int .u8 z).wf = true) := fun fuel cs x h => by
  obtain ⟨n, rfl, rfl, hw⟩ := DataW.trod_int Tryz.underlying5 h
  exact ⟨n, hw, RC.one (.v _) rfl⟩
theorem op39 : Opens enc Tryz.prog W 39 (fun a : In => [I a.i, I a.p.x0, I a.p.y0, I a.p.x1, I a.p.y1, .v (.int .u8 a.ax), .v (.int .u8 a.ay)]) (fun a => (Lit.int .u8 a.ax).wf = true ∧ (Lit.int .u8 a.ay).wf = true) := fun fuel cs x h => by
  obtain ⟨hl, m, hf⟩ := field_of Tryz.underlying39 h
  obtain ⟨_, f0⟩ := hf 0 _ rfl
  obtain ⟨a0, h0, r0⟩ := op3 _ _ _ f0
  have r0 := RC.cut (off := 0) cel3 r0
  obtain ⟨_, f1⟩ := hf 1 _ rfl
  obtain ⟨a1, h1, r1⟩ := op29 _ _ _ f1
  have r1 := RC.cut (off := 1) cel29 r1
  obtain ⟨_, f2⟩ := hf 2 _ rfl
  obtain ⟨a2, h2, r2⟩ := op5 _ _ _ f2
  have r2 := RC.cut (off := 5) cel5 r2
  obtain ⟨_, f3⟩ := hf 3 _ rfl
  obtain ⟨a3, h3, r3⟩ := op5 _ _ _ f3
  have r3 := RC.cut (off := 6) cel5 r3
  exact ⟨⟨a0, a1, a2, a3⟩, ⟨h2, h3⟩, whole_of (hl.trans cel39) (RC.join (off := 0) (n := 6) (k := 1) (RC.join (off := 0) (n := 5) (k := 1) (RC.join (off := 0) (n := 1) (k := 4) r0 r1) r2) r3)⟩

theorem arg_bool {P : Program} {t : TypeId} (ht : P.underlying t = some .bool) {b0 : Nat} {v : Value} {d : DataW H} {ps : List MemPlace}
    (hval : Value.okWide P W .any b0 t v) (hd : DataW.Trod enc P W 0 (fun _ => true) true t v d ps) : ∃ b : Bool, True ∧ RelC (memW W) (B b) v := by
  obtain ⟨b, rfl, _, _⟩ := open_bool ht hval hd
  exact ⟨b, trivial, .v _⟩
theorem arg_int {P : Program} {t : TypeId} (ht : P.underlying t = some (.int .i64)) {b0 : Nat} {v : Value} {d : DataW H} {ps : List MemPlace}
    (hval : Value.okWide P W .any b0 t v) (hd : DataW.Trod enc P W 0 (fun _ => true) true t v d ps) : ∃ z : Int, (Lit.int .i64 z).wf = true ∧ RelC (memW W) (I z) v := by
  obtain ⟨z, rfl, _, _, hw⟩ := open_int ht hval hd
  exact ⟨z, hw, .v _⟩
end Go.Proofs.Am
