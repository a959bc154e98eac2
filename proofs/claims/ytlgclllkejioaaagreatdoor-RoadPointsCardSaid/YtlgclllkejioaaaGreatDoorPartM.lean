/- Part of the proofs about the layer of roads: Points of patches: plain law. The statement RoadPoints, walked. -/
import Derived.Test.YtlgclllkejioaaaGreatDoorPartL
set_option linter.unusedVariables false
set_option linter.unusedSimpArgs false

/- Points of patches: plain law. -/
namespace Go.Proofs.Am
open Go Go.Proofs.Geo
set_option maxRecDepth 100000

abbrev onePa (x y : Int) : Pa := ⟨x, y, x, y⟩
theorem part_in {a b n : Int} (ha : Bd 100000 a) (hb : Bd 100000 b) (h : a ≤ b) (hn : 0 ≤ n ∧ n ≤ 255) : a ≤ part a b n ∧ part a b n ≤ b := by
  obtain ⟨a1, a2⟩ := ha
  obtain ⟨b1, b2⟩ := hb
  obtain ⟨n1, n2⟩ := hn
  have p1 := Int.mul_nonneg (show 0 ≤ b - a by omega) n1
  have p2 := Int.mul_le_mul_of_nonneg_left n2 (show 0 ≤ b - a by omega)
  unfold part
  rw [w64_id (x := b - a) (by omega), w64_id (x := n) (by omega), w64_id (x := (b - a) * n) (by omega), Int.tdiv_eq_ediv_of_nonneg p1, w64_id (x := (b - a) * n / 255) (by omega), w64_id (by omega)]
  omega
theorem one_box {x y : Int} {q : Pt} : InBox (box1 (onePa x y)) q ↔ q = toP (x, y) := by
  unfold InBox toP
  cases q
  simp only [Pt.mk.injEq]
  constructor
  · rintro ⟨a, b, c, d⟩; exact ⟨by grind, by grind⟩
  · rintro ⟨rfl, rfl⟩; exact ⟨by grind, by grind, by grind, by grind⟩
structure PtIn (p : Pa) (x y : Int) : Prop where
  pr : roughB p = false
  ins : InBox (box1 p) (toP (x, y))
  wl : wildB [x, y] = false
  one : roughB (onePa x y) = false
theorem ptIn_mk {p : Pa} {x y : Int} (h : roughB p = false) (hx : p.x0 ≤ x ∧ x ≤ p.x1) (hy : p.y0 ≤ y ∧ y ≤ p.y1) : PtIn p x y := by
  obtain ⟨⟨⟨a, a'⟩, ⟨b, b'⟩, ⟨c, c'⟩, ⟨d, d'⟩⟩, e, f⟩ := rough_iff.1 h
  refine ⟨h, ⟨cast_le.2 hx.1, cast_le.2 hx.2, cast_le.2 hy.1, cast_le.2 hy.2⟩, ?_, rough_iff.2 ⟨⟨⟨by simp only; omega, by simp only; omega⟩, ⟨by simp only; omega, by simp only; omega⟩, ⟨by simp only; omega, by simp only; omega⟩, ⟨by simp only; omega, by simp only; omega⟩⟩, Int.le_refl _, Int.le_refl _⟩⟩
  unfold wildB farB outB
  simp only [List.any_cons, List.any_nil, Bool.or_false, Bool.or_eq_false_iff, decide_eq_false_iff_not]
  omega
theorem Area.one {K : Pa → Int} {F : Nat → Pt → Prop} {n : Nat} (h : Area K F n) {p : Pa} {x y : Int} (hp : PtIn p x y) : (K (onePa x y) = 0 ↔ ∀ k, k < n → ¬ F k (toP (x, y))) ∧ (K (onePa x y) = 2 ↔ ∃ k, k < n ∧ F k (toP (x, y))) := by
  refine ⟨(h.none _ hp.one).trans ⟨fun g k hk => g k hk _ (one_box.2 rfl), fun g k hk q hq => by rw [one_box.1 hq]; exact g k hk⟩, (h.all _ hp.one).trans ⟨fun ⟨k, hk, g⟩ => ⟨k, hk, g _ (one_box.2 rfl)⟩, fun ⟨k, hk, g⟩ => ⟨k, hk, fun q hq => by rw [one_box.1 hq]; exact g⟩⟩⟩
theorem Area.pt0 {K : Pa → Int} {F : Nat → Pt → Prop} {n : Nat} (h : Area K F n) {p : Pa} {x y : Int} (hp : PtIn p x y) (h0 : K p = 0) : ∀ k, k < n → ¬ F k (toP (x, y)) := fun k hk => (h.none p hp.pr).1 h0 k hk _ hp.ins
theorem Area.pt2 {K : Pa → Int} {F : Nat → Pt → Prop} {n : Nat} (h : Area K F n) {p : Pa} {x y : Int} (hp : PtIn p x y) (h0 : K p = 2) : ∃ k, k < n ∧ F k (toP (x, y)) := by
  obtain ⟨k, hk, g⟩ := (h.all p hp.pr).1 h0
  exact ⟨k, hk, g _ hp.ins⟩

theorem pts_on {s : Sc} {i : Int} {p : Pa} {x y m e f n g : Int} {on : Bool} (hp : PtIn p x y) (h1 : meetsS s i p = (m, e)) (h2 : onS s i x y = (on, f)) (h3 : meetsS s i (onePa x y) = (n, g)) :
    e = f ∧ e = g ∧ (e = 0 → (m = 2 → on = true) ∧ (m = 0 → on = false) ∧ on = (n == 2) ∧ on = !(n == 0)) := by
  by_cases h : idxE s i s.roads.length = 0
  · rcases meetsS_of (s := s) (i := i) with ⟨e', he⟩ | ⟨K, F, N, hK, he, hon⟩
    · obtain ⟨gd, i0, i1⟩ := idxE_zero h
      have hb : (idxE s i s.roads.length == 0) = true := by rw [h]; rfl
      have hr := (good_ok gd).rd i.toNat (by omega)
      have hK := meets_area hr
      have ef : ∀ p, roughB p = false → meetsS s i p = (rmeetsZ (s.roads.getD i.toNat default) (bx p), 0) := fun p hp => by
        unfold meetsS errS; rw [hb, hp, meetsZ_eq hr (rough_ok hp).2]; rfl
      have eo : onS s i x y = (onZ (s.roads.getD i.toNat default) x y, 0) := by unfold onS errS; rw [hb, hp.wl]; rfl
      rw [ef _ hp.pr] at h1; rw [ef _ hp.one] at h3; rw [eo] at h2
      cases h1; cases h2; cases h3
      obtain ⟨o0, o2⟩ := hK.one hp
      refine ⟨rfl, rfl, fun _ => ⟨fun hm => on_iff.2 (hK.pt2 hp hm), fun hm => ?_, ?_, ?_⟩⟩
      · cases hz : onZ (s.roads.getD i.toNat default) x y with
        | false => rfl
        | true => obtain ⟨k, hk, hF⟩ := on_iff.1 hz; exact (hK.pt0 hp hm k hk hF).elim
      · rw [Bool.eq_iff_iff, beq_iff_eq, o2]; exact on_iff
      · rw [Bool.eq_iff_iff, Bool.not_eq_true', beq_eq_false_iff_ne, ne_eq, o0]
        rw [on_iff]
        constructor
        · rintro ⟨k, hk, hF⟩ hn; exact hn k hk hF
        · intro hn
          apply Classical.byContradiction
          intro hc
          exact hn fun k hk hF => hc ⟨k, hk, hF⟩
    · rw [he _ hp.pr] at h1; rw [he _ hp.one] at h3
      obtain ⟨o0, o2⟩ := hK.one hp
      rcases hon x y hp.wl with ⟨eo, hF⟩ | ⟨eo, hF⟩
      · rw [eo] at h2
        cases h1; cases h2; cases h3
        refine ⟨rfl, rfl, fun _ => ⟨fun _ => rfl, fun hm => ?_, ?_, ?_⟩⟩
        · obtain ⟨k, hk, hF⟩ := hF; exact (hK.pt0 hp hm k hk hF).elim
        · rw [o2.2 hF]; rfl
        · rw [o2.2 hF]; rfl
      · rw [eo] at h2
        cases h1; cases h2; cases h3
        refine ⟨rfl, rfl, fun _ => ⟨fun hm => ?_, fun _ => rfl, ?_, ?_⟩⟩
        · obtain ⟨k, hk, hF'⟩ := hK.pt2 hp hm; exact (hF k hk hF').elim
        · rw [o0.2 hF]; rfl
        · rw [o0.2 hF]; rfl
  · have hb : (idxE s i s.roads.length == 0) = false := by simpa using h
    unfold meetsS at h1 h3; unfold onS at h2
    rw [errS_1 hb, hb] at h1 h2 h3
    cases h1; cases h2; cases h3
    exact ⟨rfl, rfl, fun h0 => (h h0).elim⟩
theorem pts_shade {s : Sc} {i : Int} {p : Pa} {x y d e f t l g : Int} (hp : PtIn p x y) (h1 : shadeS s i p = (d, e)) (h2 : shadedS s i x y = (t, f)) (h3 : shadeS s i (onePa x y) = (l, g)) :
    e = f ∧ e = g ∧ (e = 0 → (d = 0 → t = -1) ∧ (d = 2 → 0 ≤ t) ∧ (t == -1) = (l == 0) ∧ l ≠ 1) := by
  rcases shadeS_of (s := s) (i := i) with ⟨e', hne, he, hs⟩ | ⟨K, F, N, hK, he, hon⟩
  · rw [he _ hp.pr] at h1; rw [he _ hp.one] at h3; rw [hs] at h2
    cases h1; cases h2; cases h3
    exact ⟨rfl, rfl, fun h => (hne h).elim⟩
  · rw [he _ hp.pr] at h1; rw [he _ hp.one] at h3
    obtain ⟨o0, o2⟩ := hK.one hp
    obtain ⟨z, hh⟩ := hon x y hp.wl
    rw [h2] at z hh
    simp only at z hh
    cases h1; cases h3
    refine ⟨z.symm, rfl, fun _ => ?_⟩
    rcases hh with ⟨t0, hF⟩ | ⟨t1, hF⟩
    · refine ⟨fun hm => ?_, fun _ => t0, ?_, ?_⟩
      · obtain ⟨k, hk, hF⟩ := hF; exact (hK.pt0 hp hm k hk hF).elim
      · rw [o2.2 hF, show (t == -1) = false by rw [beq_eq_false_iff_ne]; omega]; rfl
      · rw [o2.2 hF]; decide
    · refine ⟨fun _ => t1, fun hm => ?_, ?_, ?_⟩
      · obtain ⟨k, hk, hF'⟩ := hK.pt2 hp hm; exact (hF k hk hF').elim
      · rw [o0.2 hF, t1]; rfl
      · rw [o0.2 hF]; decide
end Go.Proofs.Am

/- The statement RoadPoints, walked. -/
namespace Go.Proofs.Am
open Go Go.Proofs.Geo
set_option maxRecDepth 100000
set_option maxHeartbeats 3200000 in
theorem roadPoints_fun (s : Sc) (hs : s.ok) (a : In) (hax : 0 ≤ a.ax ∧ a.ax ≤ 255) (hay : 0 ≤ a.ay ∧ a.ay ≤ 255) : Fun Tryz.prog 6 [scA s, inA a] (B true) := by
  refine Fun.of_run cLB rfl ?_
  cases hr : roughB a.p with
  | true =>
    have k := patched_fun a
    rw [hr] at k
    refine Rn.call 1000 rfl _ k ?_
    refine Rn.ite (b := !false) 1000 rfl (fun h => ?_) (fun h => by cases h)
    refine Rn.call 1000 rfl _ awake_fun ?_
    exact Rn.ret 1000 rfl rfl rfl
  | false =>
    have k := patched_fun a
    rw [hr] at k
    obtain ⟨⟨g1, g2, g3, g4⟩, g5, g6⟩ := rough_iff.1 hr
    have hp : PtIn a.p (part a.p.x0 a.p.x1 a.ax) (part a.p.y0 a.p.y1 a.ay) := ptIn_mk hr (part_in g1 g3 g5 hax) (part_in g2 g4 g6 hay)
    refine Rn.call 1000 rfl _ k ?_
    refine Rn.ite (b := !true) 1000 rfl (fun h => by cases h) (fun h => ?_)
    clear k h g1 g2 g3 g4 g5 g6 hr hax hay
    generalize part a.p.x0 a.p.x1 a.ax = x at *
    generalize part a.p.y0 a.p.y1 a.ay = y at *
    obtain ⟨⟨m, e⟩, em⟩ : ∃ m, m = meetsS s a.i a.p := ⟨_, rfl⟩
    obtain ⟨⟨on, f⟩, eo⟩ : ∃ m, m = onS s a.i x y := ⟨_, rfl⟩
    obtain ⟨⟨n, g⟩, en⟩ : ∃ m, m = meetsS s a.i (onePa x y) := ⟨_, rfl⟩
    obtain ⟨⟨d, e2⟩, ed⟩ : ∃ m, m = shadeS s a.i a.p := ⟨_, rfl⟩
    obtain ⟨⟨t, f2⟩, et⟩ : ∃ m, m = shadedS s a.i x y := ⟨_, rfl⟩
    obtain ⟨⟨l, g2⟩, el⟩ : ∃ m, m = shadeS s a.i (onePa x y) := ⟨_, rfl⟩
    obtain ⟨r1, r2, po⟩ := pts_on hp em.symm eo.symm en.symm
    obtain ⟨r3, r4, ps⟩ := pts_shade hp ed.symm et.symm el.symm
    have k1 := (Meets_fun s hs a.i a.p).as (r' := .tup [I m, I e]) (by rw [← em])
    have k2 := (On_fun s hs a.i x y).as (r' := .tup [B on, I f]) (by rw [← eo])
    have k3 := (Meets_fun s hs a.i (onePa x y)).as (r' := .tup [I n, I g]) (by rw [← en])
    have k4 := (Shade_fun s hs a.i a.p).as (r' := .tup [I d, I e2]) (by rw [← ed])
    have k5 := (Shaded_fun s hs a.i x y).as (r' := .tup [I t, I f2]) (by rw [← et])
    have k6 := (Shade_fun s hs a.i (onePa x y)).as (r' := .tup [I l, I g2]) (by rw [← el])
    clear em eo en ed et el hp
    subst r1; subst r2; subst r3; subst r4
    refine Rn.call 1000 rfl _ k1 ?_
    refine Rn.call 1000 rfl _ k2 ?_
    refine Rn.call 1000 rfl _ k3 ?_
    clear k1 k2 k3
    have ab : ∀ x : Int, (!(x == x)) = true → False := fun x h => by simp at h
    refine Rn.ite (b := !(e == e)) 1000 rfl (fun h => (ab _ h).elim) (fun _ => ?_)
    refine Rn.ite (b := !(e == e)) 1000 rfl (fun h => (ab _ h).elim) (fun _ => ?_)
    refine Rn.ite (b := e == 0) 1000 rfl (fun he => ?_) (fun he => ?_)
    rotate_left
    · skip
      refine Rn.call 1000 rfl _ k4 ?_
      refine Rn.call 1000 rfl _ k5 ?_
      refine Rn.call 1000 rfl _ k6 ?_
      refine Rn.ite (b := !(e2 == e2)) 1000 rfl (fun h => (ab _ h).elim) (fun _ => ?_)
      refine Rn.ite (b := !(e2 == e2)) 1000 rfl (fun h => (ab _ h).elim) (fun _ => ?_)
      refine Rn.ite (b := !(e2 == 0)) 1000 rfl (fun h => ?_) (fun h => ?_)
      · refine Rn.call 1000 rfl _ awake_fun ?_
        exact Rn.ret 1000 rfl rfl rfl
      obtain ⟨q1, q2, q3, q4⟩ := ps (by simpa using h)
      refine Rn.ite (b := !(d == 0)) 1000 rfl (fun c1 => ?_) (fun c1 => ?_)
      · refine Rn.ite (b := !(d == 2)) 1000 rfl (fun c2 => ?_) (fun c2 => ?_)
        · skip
          refine Rn.ite (b := (t == -1) == (l == 0)) 1000 rfl (fun _ => ?_) (fun c => by rw [q3] at c; simp at c)
          refine Rn.ite (b := !(l == 1)) 1000 rfl (fun _ => ?_) (fun c => by simp at c; exact absurd c q4)
          refine Rn.call 1000 rfl _ awake_fun ?_
          exact Rn.ret 1000 rfl rfl rfl
        · refine Rn.ite (b := decide (t ≥ 0)) 1000 rfl (fun _ => ?_) (fun c => absurd (q2 (by simpa using c2)) (of_decide_eq_false c))
          refine Rn.ite (b := (t == -1) == (l == 0)) 1000 rfl (fun _ => ?_) (fun c => by rw [q3] at c; simp at c)
          refine Rn.ite (b := !(l == 1)) 1000 rfl (fun _ => ?_) (fun c => by simp at c; exact absurd c q4)
          refine Rn.call 1000 rfl _ awake_fun ?_
          exact Rn.ret 1000 rfl rfl rfl
      · refine Rn.ite (b := t == -1) 1000 rfl (fun _ => ?_) (fun c => by have := q1 (by simpa using c1); simp [this] at c)
        refine Rn.ite (b := !(d == 2)) 1000 rfl (fun _ => ?_) (fun c2 => by simp at c1 c2; omega)
        refine Rn.ite (b := (t == -1) == (l == 0)) 1000 rfl (fun _ => ?_) (fun c => by rw [q3] at c; simp at c)
        refine Rn.ite (b := !(l == 1)) 1000 rfl (fun _ => ?_) (fun c => by simp at c; exact absurd c q4)
        refine Rn.call 1000 rfl _ awake_fun ?_
        exact Rn.ret 1000 rfl rfl rfl
    obtain ⟨p1, p2, p3, p4⟩ := po (eq_of_beq he)
    refine Rn.ite (b := m == 2) 1000 rfl (fun c1 => ?_) (fun c1 => ?_)
    · have hm := eq_of_beq c1
      refine Rn.ite (b := !on) 1000 rfl (fun c => by rw [p1 hm] at c; cases c) (fun _ => ?_)
      refine Rn.ite (b := m == 0) 1000 rfl (fun c => by have := eq_of_beq c; omega) (fun _ => ?_)
      refine Rn.ite (b := !(on == (n == 2))) 1000 rfl (fun c => by rw [p3] at c; simp at c) (fun _ => ?_)
      refine Rn.ite (b := on == (n == 0)) 1000 rfl (fun c => by rw [p4] at c; simp at c) (fun _ => ?_)
      refine Rn.call 1000 rfl _ k4 ?_
      refine Rn.call 1000 rfl _ k5 ?_
      refine Rn.call 1000 rfl _ k6 ?_
      refine Rn.ite (b := !(e2 == e2)) 1000 rfl (fun h => (ab _ h).elim) (fun _ => ?_)
      refine Rn.ite (b := !(e2 == e2)) 1000 rfl (fun h => (ab _ h).elim) (fun _ => ?_)
      refine Rn.ite (b := !(e2 == 0)) 1000 rfl (fun h => ?_) (fun h => ?_)
      · refine Rn.call 1000 rfl _ awake_fun ?_
        exact Rn.ret 1000 rfl rfl rfl
      obtain ⟨q1, q2, q3, q4⟩ := ps (by simpa using h)
      refine Rn.ite (b := !(d == 0)) 1000 rfl (fun c1 => ?_) (fun c1 => ?_)
      · refine Rn.ite (b := !(d == 2)) 1000 rfl (fun c2 => ?_) (fun c2 => ?_)
        · skip
          refine Rn.ite (b := (t == -1) == (l == 0)) 1000 rfl (fun _ => ?_) (fun c => by rw [q3] at c; simp at c)
          refine Rn.ite (b := !(l == 1)) 1000 rfl (fun _ => ?_) (fun c => by simp at c; exact absurd c q4)
          refine Rn.call 1000 rfl _ awake_fun ?_
          exact Rn.ret 1000 rfl rfl rfl
        · refine Rn.ite (b := decide (t ≥ 0)) 1000 rfl (fun _ => ?_) (fun c => absurd (q2 (by simpa using c2)) (of_decide_eq_false c))
          refine Rn.ite (b := (t == -1) == (l == 0)) 1000 rfl (fun _ => ?_) (fun c => by rw [q3] at c; simp at c)
          refine Rn.ite (b := !(l == 1)) 1000 rfl (fun _ => ?_) (fun c => by simp at c; exact absurd c q4)
          refine Rn.call 1000 rfl _ awake_fun ?_
          exact Rn.ret 1000 rfl rfl rfl
      · refine Rn.ite (b := t == -1) 1000 rfl (fun _ => ?_) (fun c => by have := q1 (by simpa using c1); simp [this] at c)
        refine Rn.ite (b := !(d == 2)) 1000 rfl (fun _ => ?_) (fun c2 => by simp at c1 c2; omega)
        refine Rn.ite (b := (t == -1) == (l == 0)) 1000 rfl (fun _ => ?_) (fun c => by rw [q3] at c; simp at c)
        refine Rn.ite (b := !(l == 1)) 1000 rfl (fun _ => ?_) (fun c => by simp at c; exact absurd c q4)
        refine Rn.call 1000 rfl _ awake_fun ?_
        exact Rn.ret 1000 rfl rfl rfl
    · refine Rn.ite (b := m == 0) 1000 rfl (fun c2 => ?_) (fun c2 => ?_)
      · refine Rn.ite (b := on) 1000 rfl (fun c => by rw [p2 (eq_of_beq c2)] at c; cases c) (fun _ => ?_)
        refine Rn.ite (b := !(on == (n == 2))) 1000 rfl (fun c => by rw [p3] at c; simp at c) (fun _ => ?_)
        refine Rn.ite (b := on == (n == 0)) 1000 rfl (fun c => by rw [p4] at c; simp at c) (fun _ => ?_)
        refine Rn.call 1000 rfl _ k4 ?_
        refine Rn.call 1000 rfl _ k5 ?_
        refine Rn.call 1000 rfl _ k6 ?_
        refine Rn.ite (b := !(e2 == e2)) 1000 rfl (fun h => (ab _ h).elim) (fun _ => ?_)
        refine Rn.ite (b := !(e2 == e2)) 1000 rfl (fun h => (ab _ h).elim) (fun _ => ?_)
        refine Rn.ite (b := !(e2 == 0)) 1000 rfl (fun h => ?_) (fun h => ?_)
        · refine Rn.call 1000 rfl _ awake_fun ?_
          exact Rn.ret 1000 rfl rfl rfl
        obtain ⟨q1, q2, q3, q4⟩ := ps (by simpa using h)
        refine Rn.ite (b := !(d == 0)) 1000 rfl (fun c1 => ?_) (fun c1 => ?_)
        · refine Rn.ite (b := !(d == 2)) 1000 rfl (fun c2 => ?_) (fun c2 => ?_)
          · skip
            refine Rn.ite (b := (t == -1) == (l == 0)) 1000 rfl (fun _ => ?_) (fun c => by rw [q3] at c; simp at c)
            refine Rn.ite (b := !(l == 1)) 1000 rfl (fun _ => ?_) (fun c => by simp at c; exact absurd c q4)
            refine Rn.call 1000 rfl _ awake_fun ?_
            exact Rn.ret 1000 rfl rfl rfl
          · refine Rn.ite (b := decide (t ≥ 0)) 1000 rfl (fun _ => ?_) (fun c => absurd (q2 (by simpa using c2)) (of_decide_eq_false c))
            refine Rn.ite (b := (t == -1) == (l == 0)) 1000 rfl (fun _ => ?_) (fun c => by rw [q3] at c; simp at c)
            refine Rn.ite (b := !(l == 1)) 1000 rfl (fun _ => ?_) (fun c => by simp at c; exact absurd c q4)
            refine Rn.call 1000 rfl _ awake_fun ?_
            exact Rn.ret 1000 rfl rfl rfl
        · refine Rn.ite (b := t == -1) 1000 rfl (fun _ => ?_) (fun c => by have := q1 (by simpa using c1); simp [this] at c)
          refine Rn.ite (b := !(d == 2)) 1000 rfl (fun _ => ?_) (fun c2 => by simp at c1 c2; omega)
          refine Rn.ite (b := (t == -1) == (l == 0)) 1000 rfl (fun _ => ?_) (fun c => by rw [q3] at c; simp at c)
          refine Rn.ite (b := !(l == 1)) 1000 rfl (fun _ => ?_) (fun c => by simp at c; exact absurd c q4)
          refine Rn.call 1000 rfl _ awake_fun ?_
          exact Rn.ret 1000 rfl rfl rfl
      · skip
        refine Rn.ite (b := !(on == (n == 2))) 1000 rfl (fun c => by rw [p3] at c; simp at c) (fun _ => ?_)
        refine Rn.ite (b := on == (n == 0)) 1000 rfl (fun c => by rw [p4] at c; simp at c) (fun _ => ?_)
        refine Rn.call 1000 rfl _ k4 ?_
        refine Rn.call 1000 rfl _ k5 ?_
        refine Rn.call 1000 rfl _ k6 ?_
        refine Rn.ite (b := !(e2 == e2)) 1000 rfl (fun h => (ab _ h).elim) (fun _ => ?_)
        refine Rn.ite (b := !(e2 == e2)) 1000 rfl (fun h => (ab _ h).elim) (fun _ => ?_)
        refine Rn.ite (b := !(e2 == 0)) 1000 rfl (fun h => ?_) (fun h => ?_)
        · refine Rn.call 1000 rfl _ awake_fun ?_
          exact Rn.ret 1000 rfl rfl rfl
        obtain ⟨q1, q2, q3, q4⟩ := ps (by simpa using h)
        refine Rn.ite (b := !(d == 0)) 1000 rfl (fun c1 => ?_) (fun c1 => ?_)
        · refine Rn.ite (b := !(d == 2)) 1000 rfl (fun c2 => ?_) (fun c2 => ?_)
          · skip
            refine Rn.ite (b := (t == -1) == (l == 0)) 1000 rfl (fun _ => ?_) (fun c => by rw [q3] at c; simp at c)
            refine Rn.ite (b := !(l == 1)) 1000 rfl (fun _ => ?_) (fun c => by simp at c; exact absurd c q4)
            refine Rn.call 1000 rfl _ awake_fun ?_
            exact Rn.ret 1000 rfl rfl rfl
          · refine Rn.ite (b := decide (t ≥ 0)) 1000 rfl (fun _ => ?_) (fun c => absurd (q2 (by simpa using c2)) (of_decide_eq_false c))
            refine Rn.ite (b := (t == -1) == (l == 0)) 1000 rfl (fun _ => ?_) (fun c => by rw [q3] at c; simp at c)
            refine Rn.ite (b := !(l == 1)) 1000 rfl (fun _ => ?_) (fun c => by simp at c; exact absurd c q4)
            refine Rn.call 1000 rfl _ awake_fun ?_
            exact Rn.ret 1000 rfl rfl rfl
        · refine Rn.ite (b := t == -1) 1000 rfl (fun _ => ?_) (fun c => by have := q1 (by simpa using c1); simp [this] at c)
          refine Rn.ite (b := !(d == 2)) 1000 rfl (fun _ => ?_) (fun c2 => by simp at c1 c2; omega)
          refine Rn.ite (b := (t == -1) == (l == 0)) 1000 rfl (fun _ => ?_) (fun c => by rw [q3] at c; simp at c)
          refine Rn.ite (b := !(l == 1)) 1000 rfl (fun _ => ?_) (fun c => by simp at c; exact absurd c q4)
          refine Rn.call 1000 rfl _ awake_fun ?_
          exact Rn.ret 1000 rfl rfl rfl
end Go.Proofs.Am
