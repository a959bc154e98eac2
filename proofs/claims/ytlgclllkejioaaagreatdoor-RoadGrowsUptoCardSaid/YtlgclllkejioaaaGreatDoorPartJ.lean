/- Part of the proofs about the layer of roads: Strips, by the reference: how much of a patch is on one. Strips, by the reference: whether a strip has a point of a patch. Roads, by the reference: how much of a patch is on one. What a scene without an error is. On and Meets, the program's and the reference's. -/
import Derived.Test.YtlgclllkejioaaaGreatDoorPartI
set_option linter.unusedVariables false
set_option linter.unusedSimpArgs false

/- Strips, by the reference: how much of a patch is on one. -/
namespace Go.Proofs.Am
open Go Go.Proofs.Geo
set_option maxRecDepth 100000

theorem fromZ_eq (n lo hi : Int) : (!outB n lo hi) = fromZ n lo hi := by
  unfold outB fromZ; rw [Bool.eq_iff_iff]; simp
theorem between_fun (p a b : Int × Int) : Fun Tryz.prog 171 [V p.1 p.2, V a.1 a.2, V b.1 b.2] (B (betweenZ p a b)) := by
  have g1 : Fun Tryz.prog 71 [I p.1, I (mn2 a.1 b.1), I (mx2 a.1 b.1)] (B (fromZ p.1 (min a.1 b.1) (max a.1 b.1))) := (from_fun _ _ _).as (congrArg B (by rw [fromZ_eq, mn2_eq, mx2_eq]))
  have g2 : Fun Tryz.prog 71 [I p.2, I (mn2 a.2 b.2), I (mx2 a.2 b.2)] (B (fromZ p.2 (min a.2 b.2) (max a.2 b.2))) := (from_fun _ _ _).as (congrArg B (by rw [fromZ_eq, mn2_eq, mx2_eq]))
  unfold betweenZ
  refine Fun.of_run cQ rfl ?_
  refine Rn.call 1000 rfl _ g1 ?_
  refine Rn.ite 1000 rfl (fun h => ?_) (fun h => ?_)
  · refine Rn.call 1000 rfl _ g2 ?_
    exact Rn.ret 1000 rfl rfl (congrArg B (by rw [show fromZ p.1 (min a.1 b.1) (max a.1 b.1) = true from h]; rfl))
  · exact Rn.ret 1000 rfl rfl (congrArg B (by rw [show fromZ p.1 (min a.1 b.1) (max a.1 b.1) = false from h]; rfl))

theorem sign_small (n : Int) : -1 ≤ signZ n ∧ signZ n ≤ 1 := by unfold signZ; omega
theorem sign_mul (m n : Int) : w64 (signZ m * signZ n) = signZ m * signZ n := by
  have h1 := sign_small m
  have h2 := sign_small n
  have := mulbd' (x := signZ m) (y := signZ n) (a := 1) (b := 1) (c := 1) h1 h2 (by decide)
  exact w64_id (by omega)
theorem bd1 {p : Int × Int} (h : BdP 2000000 p) : BdP 100000000 p := by
  obtain ⟨⟨_, _⟩, _, _⟩ := h
  exact ⟨⟨by omega, by omega⟩, by omega, by omega⟩

theorem crosses_fun {a b c d : Int × Int} (ha : BdP 2000000 a) (hb : BdP 2000000 b) (hc : BdP 2000000 c) (hd : BdP 2000000 d) : Fun Tryz.prog 151 [V a.1 a.2, V b.1 b.2, V c.1 c.2, V d.1 d.2] (B (crossesZ a b c d)) := by
  obtain ⟨x, hx⟩ : ∃ x, x = signZ (sideZ a b c) := ⟨_, rfl⟩
  obtain ⟨y, hy⟩ : ∃ x, x = signZ (sideZ a b d) := ⟨_, rfl⟩
  obtain ⟨z, hz⟩ : ∃ x, x = signZ (sideZ c d a) := ⟨_, rfl⟩
  obtain ⟨u, hu⟩ : ∃ x, x = signZ (sideZ c d b) := ⟨_, rfl⟩
  obtain ⟨b1, h1⟩ : ∃ x, x = betweenZ c a b := ⟨_, rfl⟩
  obtain ⟨b2, h2⟩ : ∃ x, x = betweenZ d a b := ⟨_, rfl⟩
  obtain ⟨b3, h3⟩ : ∃ x, x = betweenZ a c d := ⟨_, rfl⟩
  obtain ⟨b4, h4⟩ : ∃ x, x = betweenZ b c d := ⟨_, rfl⟩
  have key : crossesZ a b c d = ((decide (w64 (x * y) < 0) && decide (w64 (z * u) < 0)) || (((x == 0 && b1) || (y == 0 && b2)) || ((z == 0 && b3) || (u == 0 && b4)))) := by
    subst hx; subst hy; subst hz; subst hu; subst h1; subst h2; subst h3; subst h4
    rw [sign_mul, sign_mul]
    rfl
  rw [key]
  have k1 := (between_fun c a b).as (congrArg B h1)
  have k2 := (between_fun d a b).as (congrArg B h2)
  have k3 := (between_fun a c d).as (congrArg B h3)
  have k4 := (between_fun b c d).as (congrArg B h4)
  have s1 := (sign_fun (sideB a b c)).as (r' := I x) (congrArg I (by rw [sideB_eq (bd1 ha) (bd1 hb) (bd1 hc)]; exact hx))
  have s2 := (sign_fun (sideB a b d)).as (r' := I y) (congrArg I (by rw [sideB_eq (bd1 ha) (bd1 hb) (bd1 hd)]; exact hy))
  have s3 := (sign_fun (sideB c d a)).as (r' := I z) (congrArg I (by rw [sideB_eq (bd1 hc) (bd1 hd) (bd1 ha)]; exact hz))
  have s4 := (sign_fun (sideB c d b)).as (r' := I u) (congrArg I (by rw [sideB_eq (bd1 hc) (bd1 hd) (bd1 hb)]; exact hu))
  clear key hx hy hz hu h1 h2 h3 h4
  refine Fun.of_run cQ rfl ?_
  refine Rn.call 1000 rfl _ (rminus_fun _ _ _ _) ?_
  refine Rn.call 1000 rfl _ (rminus_fun _ _ _ _) ?_
  refine Rn.call 1000 rfl _ (rcross_fun _ _ _ _) ?_
  refine Rn.call 1000 rfl _ s1 ?_
  refine Rn.call 1000 rfl _ (rminus_fun _ _ _ _) ?_
  refine Rn.call 1000 rfl _ (rminus_fun _ _ _ _) ?_
  refine Rn.call 1000 rfl _ (rcross_fun _ _ _ _) ?_
  refine Rn.call 1000 rfl _ s2 ?_
  refine Rn.chk 1000 rfl (by kernel_rfl) ?_
  refine Rn.call 1000 rfl _ (rminus_fun _ _ _ _) ?_
  refine Rn.call 1000 rfl _ (rminus_fun _ _ _ _) ?_
  refine Rn.call 1000 rfl _ (rcross_fun _ _ _ _) ?_
  refine Rn.call 1000 rfl _ s3 ?_
  refine Rn.call 1000 rfl _ (rminus_fun _ _ _ _) ?_
  refine Rn.call 1000 rfl _ (rminus_fun _ _ _ _) ?_
  refine Rn.call 1000 rfl _ (rcross_fun _ _ _ _) ?_
  refine Rn.call 1000 rfl _ s4 ?_
  refine Rn.chk 1000 rfl (by kernel_rfl) ?_
  clear s1 s2 s3 s4
  obtain ⟨p, hp⟩ : ∃ q, q = decide (w64 (x * y) < 0) := ⟨_, rfl⟩
  obtain ⟨q, hq⟩ : ∃ q, q = decide (w64 (z * u) < 0) := ⟨_, rfl⟩
  obtain ⟨x0, hx0⟩ : ∃ q, q = (x == 0) := ⟨_, rfl⟩
  obtain ⟨y0, hy0⟩ : ∃ q, q = (y == 0) := ⟨_, rfl⟩
  obtain ⟨z0, hz0⟩ : ∃ q, q = (z == 0) := ⟨_, rfl⟩
  obtain ⟨u0, hu0⟩ : ∃ q, q = (u == 0) := ⟨_, rfl⟩
  rw [← hp, ← hq, ← hx0, ← hy0, ← hz0, ← hu0]
  have fin : ∀ R : Bool, R = (p && q || (x0 && b1 || y0 && b2 || (z0 && b3 || u0 && b4))) → (B R = B (p && q || (x0 && b1 || y0 && b2 || (z0 && b3 || u0 && b4)))) := fun R h => congrArg B h
  refine Rn.ite (b := decide (w64 (x * y) < 0)) 1000 rfl (fun h => ?_) (fun h => ?_)
  · rw [← hp] at h
    refine Rn.ite (b := decide (w64 (z * u) < 0)) 1000 rfl (fun h' => ?_) (fun h' => ?_)
    · rw [← hq] at h'
      exact Rn.ret 1000 rfl rfl (fin _ (by rw [h, h']; rfl))
    rw [← hq] at h'
    have fin : ∀ R : Bool, R = (x0 && b1 || y0 && b2 || (z0 && b3 || u0 && b4)) → (B R = B (p && q || (x0 && b1 || y0 && b2 || (z0 && b3 || u0 && b4)))) := fun R hR => fin R (by rw [hR, h, h']; rfl)
    clear h h' hp hq
    refine Rn.ite (b := x == 0) 1000 rfl (fun a0 => ?_) (fun a0 => ?_) <;> rw [← hx0] at a0
    · refine Rn.call 1000 rfl _ k1 ?_
      refine Rn.ite (b := b1) 1000 rfl (fun c0 => ?_) (fun c0 => ?_)
      · exact Rn.ret 1000 rfl rfl (fin _ (by rw [a0, c0]; try rfl))
      · skip
        refine Rn.ite (b := y == 0) 1000 rfl (fun a1 => ?_) (fun a1 => ?_) <;> rw [← hy0] at a1
        · refine Rn.call 1000 rfl _ k2 ?_
          refine Rn.ite (b := b2) 1000 rfl (fun c1 => ?_) (fun c1 => ?_)
          · exact Rn.ret 1000 rfl rfl (fin _ (by rw [a0, c0, a1, c1]; try rfl))
          · skip
            refine Rn.ite (b := z == 0) 1000 rfl (fun a2 => ?_) (fun a2 => ?_) <;> rw [← hz0] at a2
            · refine Rn.call 1000 rfl _ k3 ?_
              refine Rn.ite (b := b3) 1000 rfl (fun c2 => ?_) (fun c2 => ?_)
              · exact Rn.ret 1000 rfl rfl (fin _ (by rw [a0, c0, a1, c1, a2, c2]; try rfl))
              · skip
                refine Rn.ite (b := u == 0) 1000 rfl (fun a3 => ?_) (fun a3 => ?_) <;> rw [← hu0] at a3
                · refine Rn.call 1000 rfl _ k4 ?_
                  exact Rn.ret 1000 rfl rfl (fin _ (by rw [a0, c0, a1, c1, a2, c2, a3]; try rfl))
                · exact Rn.ret 1000 rfl rfl (fin _ (by rw [a0, c0, a1, c1, a2, c2, a3]; try rfl))
            · skip
              refine Rn.ite (b := u == 0) 1000 rfl (fun a3 => ?_) (fun a3 => ?_) <;> rw [← hu0] at a3
              · refine Rn.call 1000 rfl _ k4 ?_
                exact Rn.ret 1000 rfl rfl (fin _ (by rw [a0, c0, a1, c1, a2, a3]; try rfl))
              · exact Rn.ret 1000 rfl rfl (fin _ (by rw [a0, c0, a1, c1, a2, a3]; try rfl))
        · skip
          refine Rn.ite (b := z == 0) 1000 rfl (fun a2 => ?_) (fun a2 => ?_) <;> rw [← hz0] at a2
          · refine Rn.call 1000 rfl _ k3 ?_
            refine Rn.ite (b := b3) 1000 rfl (fun c2 => ?_) (fun c2 => ?_)
            · exact Rn.ret 1000 rfl rfl (fin _ (by rw [a0, c0, a1, a2, c2]; try rfl))
            · skip
              refine Rn.ite (b := u == 0) 1000 rfl (fun a3 => ?_) (fun a3 => ?_) <;> rw [← hu0] at a3
              · refine Rn.call 1000 rfl _ k4 ?_
                exact Rn.ret 1000 rfl rfl (fin _ (by rw [a0, c0, a1, a2, c2, a3]; try rfl))
              · exact Rn.ret 1000 rfl rfl (fin _ (by rw [a0, c0, a1, a2, c2, a3]; try rfl))
          · skip
            refine Rn.ite (b := u == 0) 1000 rfl (fun a3 => ?_) (fun a3 => ?_) <;> rw [← hu0] at a3
            · refine Rn.call 1000 rfl _ k4 ?_
              exact Rn.ret 1000 rfl rfl (fin _ (by rw [a0, c0, a1, a2, a3]; try rfl))
            · exact Rn.ret 1000 rfl rfl (fin _ (by rw [a0, c0, a1, a2, a3]; try rfl))
    · skip
      refine Rn.ite (b := y == 0) 1000 rfl (fun a1 => ?_) (fun a1 => ?_) <;> rw [← hy0] at a1
      · refine Rn.call 1000 rfl _ k2 ?_
        refine Rn.ite (b := b2) 1000 rfl (fun c1 => ?_) (fun c1 => ?_)
        · exact Rn.ret 1000 rfl rfl (fin _ (by rw [a0, a1, c1]; try rfl))
        · skip
          refine Rn.ite (b := z == 0) 1000 rfl (fun a2 => ?_) (fun a2 => ?_) <;> rw [← hz0] at a2
          · refine Rn.call 1000 rfl _ k3 ?_
            refine Rn.ite (b := b3) 1000 rfl (fun c2 => ?_) (fun c2 => ?_)
            · exact Rn.ret 1000 rfl rfl (fin _ (by rw [a0, a1, c1, a2, c2]; try rfl))
            · skip
              refine Rn.ite (b := u == 0) 1000 rfl (fun a3 => ?_) (fun a3 => ?_) <;> rw [← hu0] at a3
              · refine Rn.call 1000 rfl _ k4 ?_
                exact Rn.ret 1000 rfl rfl (fin _ (by rw [a0, a1, c1, a2, c2, a3]; try rfl))
              · exact Rn.ret 1000 rfl rfl (fin _ (by rw [a0, a1, c1, a2, c2, a3]; try rfl))
          · skip
            refine Rn.ite (b := u == 0) 1000 rfl (fun a3 => ?_) (fun a3 => ?_) <;> rw [← hu0] at a3
            · refine Rn.call 1000 rfl _ k4 ?_
              exact Rn.ret 1000 rfl rfl (fin _ (by rw [a0, a1, c1, a2, a3]; try rfl))
            · exact Rn.ret 1000 rfl rfl (fin _ (by rw [a0, a1, c1, a2, a3]; try rfl))
      · skip
        refine Rn.ite (b := z == 0) 1000 rfl (fun a2 => ?_) (fun a2 => ?_) <;> rw [← hz0] at a2
        · refine Rn.call 1000 rfl _ k3 ?_
          refine Rn.ite (b := b3) 1000 rfl (fun c2 => ?_) (fun c2 => ?_)
          · exact Rn.ret 1000 rfl rfl (fin _ (by rw [a0, a1, a2, c2]; try rfl))
          · skip
            refine Rn.ite (b := u == 0) 1000 rfl (fun a3 => ?_) (fun a3 => ?_) <;> rw [← hu0] at a3
            · refine Rn.call 1000 rfl _ k4 ?_
              exact Rn.ret 1000 rfl rfl (fin _ (by rw [a0, a1, a2, c2, a3]; try rfl))
            · exact Rn.ret 1000 rfl rfl (fin _ (by rw [a0, a1, a2, c2, a3]; try rfl))
        · skip
          refine Rn.ite (b := u == 0) 1000 rfl (fun a3 => ?_) (fun a3 => ?_) <;> rw [← hu0] at a3
          · refine Rn.call 1000 rfl _ k4 ?_
            exact Rn.ret 1000 rfl rfl (fin _ (by rw [a0, a1, a2, a3]; try rfl))
          · exact Rn.ret 1000 rfl rfl (fin _ (by rw [a0, a1, a2, a3]; try rfl))
  rw [← hp] at h
  have fin : ∀ R : Bool, R = (x0 && b1 || y0 && b2 || (z0 && b3 || u0 && b4)) → (B R = B (p && q || (x0 && b1 || y0 && b2 || (z0 && b3 || u0 && b4)))) := fun R hR => fin R (by rw [hR, h]; rfl)
  clear h hp hq
  refine Rn.ite (b := x == 0) 1000 rfl (fun a0 => ?_) (fun a0 => ?_) <;> rw [← hx0] at a0
  · refine Rn.call 1000 rfl _ k1 ?_
    refine Rn.ite (b := b1) 1000 rfl (fun c0 => ?_) (fun c0 => ?_)
    · exact Rn.ret 1000 rfl rfl (fin _ (by rw [a0, c0]; try rfl))
    · skip
      refine Rn.ite (b := y == 0) 1000 rfl (fun a1 => ?_) (fun a1 => ?_) <;> rw [← hy0] at a1
      · refine Rn.call 1000 rfl _ k2 ?_
        refine Rn.ite (b := b2) 1000 rfl (fun c1 => ?_) (fun c1 => ?_)
        · exact Rn.ret 1000 rfl rfl (fin _ (by rw [a0, c0, a1, c1]; try rfl))
        · skip
          refine Rn.ite (b := z == 0) 1000 rfl (fun a2 => ?_) (fun a2 => ?_) <;> rw [← hz0] at a2
          · refine Rn.call 1000 rfl _ k3 ?_
            refine Rn.ite (b := b3) 1000 rfl (fun c2 => ?_) (fun c2 => ?_)
            · exact Rn.ret 1000 rfl rfl (fin _ (by rw [a0, c0, a1, c1, a2, c2]; try rfl))
            · skip
              refine Rn.ite (b := u == 0) 1000 rfl (fun a3 => ?_) (fun a3 => ?_) <;> rw [← hu0] at a3
              · refine Rn.call 1000 rfl _ k4 ?_
                exact Rn.ret 1000 rfl rfl (fin _ (by rw [a0, c0, a1, c1, a2, c2, a3]; try rfl))
              · exact Rn.ret 1000 rfl rfl (fin _ (by rw [a0, c0, a1, c1, a2, c2, a3]; try rfl))
          · skip
            refine Rn.ite (b := u == 0) 1000 rfl (fun a3 => ?_) (fun a3 => ?_) <;> rw [← hu0] at a3
            · refine Rn.call 1000 rfl _ k4 ?_
              exact Rn.ret 1000 rfl rfl (fin _ (by rw [a0, c0, a1, c1, a2, a3]; try rfl))
            · exact Rn.ret 1000 rfl rfl (fin _ (by rw [a0, c0, a1, c1, a2, a3]; try rfl))
      · skip
        refine Rn.ite (b := z == 0) 1000 rfl (fun a2 => ?_) (fun a2 => ?_) <;> rw [← hz0] at a2
        · refine Rn.call 1000 rfl _ k3 ?_
          refine Rn.ite (b := b3) 1000 rfl (fun c2 => ?_) (fun c2 => ?_)
          · exact Rn.ret 1000 rfl rfl (fin _ (by rw [a0, c0, a1, a2, c2]; try rfl))
          · skip
            refine Rn.ite (b := u == 0) 1000 rfl (fun a3 => ?_) (fun a3 => ?_) <;> rw [← hu0] at a3
            · refine Rn.call 1000 rfl _ k4 ?_
              exact Rn.ret 1000 rfl rfl (fin _ (by rw [a0, c0, a1, a2, c2, a3]; try rfl))
            · exact Rn.ret 1000 rfl rfl (fin _ (by rw [a0, c0, a1, a2, c2, a3]; try rfl))
        · skip
          refine Rn.ite (b := u == 0) 1000 rfl (fun a3 => ?_) (fun a3 => ?_) <;> rw [← hu0] at a3
          · refine Rn.call 1000 rfl _ k4 ?_
            exact Rn.ret 1000 rfl rfl (fin _ (by rw [a0, c0, a1, a2, a3]; try rfl))
          · exact Rn.ret 1000 rfl rfl (fin _ (by rw [a0, c0, a1, a2, a3]; try rfl))
  · skip
    refine Rn.ite (b := y == 0) 1000 rfl (fun a1 => ?_) (fun a1 => ?_) <;> rw [← hy0] at a1
    · refine Rn.call 1000 rfl _ k2 ?_
      refine Rn.ite (b := b2) 1000 rfl (fun c1 => ?_) (fun c1 => ?_)
      · exact Rn.ret 1000 rfl rfl (fin _ (by rw [a0, a1, c1]; try rfl))
      · skip
        refine Rn.ite (b := z == 0) 1000 rfl (fun a2 => ?_) (fun a2 => ?_) <;> rw [← hz0] at a2
        · refine Rn.call 1000 rfl _ k3 ?_
          refine Rn.ite (b := b3) 1000 rfl (fun c2 => ?_) (fun c2 => ?_)
          · exact Rn.ret 1000 rfl rfl (fin _ (by rw [a0, a1, c1, a2, c2]; try rfl))
          · skip
            refine Rn.ite (b := u == 0) 1000 rfl (fun a3 => ?_) (fun a3 => ?_) <;> rw [← hu0] at a3
            · refine Rn.call 1000 rfl _ k4 ?_
              exact Rn.ret 1000 rfl rfl (fin _ (by rw [a0, a1, c1, a2, c2, a3]; try rfl))
            · exact Rn.ret 1000 rfl rfl (fin _ (by rw [a0, a1, c1, a2, c2, a3]; try rfl))
        · skip
          refine Rn.ite (b := u == 0) 1000 rfl (fun a3 => ?_) (fun a3 => ?_) <;> rw [← hu0] at a3
          · refine Rn.call 1000 rfl _ k4 ?_
            exact Rn.ret 1000 rfl rfl (fin _ (by rw [a0, a1, c1, a2, a3]; try rfl))
          · exact Rn.ret 1000 rfl rfl (fin _ (by rw [a0, a1, c1, a2, a3]; try rfl))
    · skip
      refine Rn.ite (b := z == 0) 1000 rfl (fun a2 => ?_) (fun a2 => ?_) <;> rw [← hz0] at a2
      · refine Rn.call 1000 rfl _ k3 ?_
        refine Rn.ite (b := b3) 1000 rfl (fun c2 => ?_) (fun c2 => ?_)
        · exact Rn.ret 1000 rfl rfl (fin _ (by rw [a0, a1, a2, c2]; try rfl))
        · skip
          refine Rn.ite (b := u == 0) 1000 rfl (fun a3 => ?_) (fun a3 => ?_) <;> rw [← hu0] at a3
          · refine Rn.call 1000 rfl _ k4 ?_
            exact Rn.ret 1000 rfl rfl (fin _ (by rw [a0, a1, a2, c2, a3]; try rfl))
          · exact Rn.ret 1000 rfl rfl (fin _ (by rw [a0, a1, a2, c2, a3]; try rfl))
      · skip
        refine Rn.ite (b := u == 0) 1000 rfl (fun a3 => ?_) (fun a3 => ?_) <;> rw [← hu0] at a3
        · refine Rn.call 1000 rfl _ k4 ?_
          exact Rn.ret 1000 rfl rfl (fin _ (by rw [a0, a1, a2, a3]; try rfl))
        · exact Rn.ret 1000 rfl rfl (fin _ (by rw [a0, a1, a2, a3]; try rfl))
end Go.Proofs.Am

/- Strips, by the reference: whether a strip has a point of a patch. -/
namespace Go.Proofs.Am
open Go Go.Proofs.Geo
set_option maxRecDepth 100000

def endR (b : Box) (w : Int) (e : Int × Int) : Bool :=
  decide (w64 (w64 (mx3 0 (w64 (b.x0 - e.1)) (w64 (e.1 - b.x1)) * mx3 0 (w64 (b.x0 - e.1)) (w64 (e.1 - b.x1))) + w64 (mx3 0 (w64 (b.y0 - e.2)) (w64 (e.2 - b.y1)) * mx3 0 (w64 (b.y0 - e.2)) (w64 (e.2 - b.y1)))) ≤ w64 (w * w))
theorem mx3_swap (x z : Int) : mx3 0 x z = mx3 x 0 z := by unfold mx3; simp only [mx2_eq]; omega
theorem endR_eq {p : Pa} {w : Int} {e : Int × Int} (he : BdP 200000 e) (hw : Bd 30000 w) (hp : PaBig p) : endR (bx p) w e = endZ (bx p) w e := by
  rw [← endQ_eq he hw hp]; unfold endR endQ; rw [mx3_swap, mx3_swap]

theorem touched_fun {r : Rd} (hr : RdOk r) {k : Nat} (hk : k + 1 < r.pts.length) {p : Pa} (hp : PaBig p) : Fun Tryz.prog 126 [.agg (rdC r), I (k : Int), paA p] (B (someR (pcA r k) (pcB r k) r.width (bx p))) := by
  obtain ⟨⟨hx0, hy0⟩, hx1, hy1⟩ := id hp
  have ha : BdP 200000 (pcA r k) := dbl_bd (hr.get (k := k) (by omega))
  have hb : BdP 200000 (pcB r k) := dbl_bd (hr.get (k := k + 1) (by omega))
  have hw := hr.w
  obtain ⟨i0, i1, j0, j1⟩ : w64 (2 * p.x0) = 2 * p.x0 ∧ w64 (2 * p.x1) = 2 * p.x1 ∧ w64 (2 * p.y0) = 2 * p.y0 ∧ w64 (2 * p.y1) = 2 * p.y1 :=
    ⟨w64_2 hx0, w64_2 hx1, w64_2 hy0, w64_2 hy1⟩
  have q00 : BdP 2000000 (2 * p.x0, 2 * p.y0) := dbl_big (p := (p.x0, p.y0)) ⟨hx0, hy0⟩
  have q10 : BdP 2000000 (2 * p.x1, 2 * p.y0) := dbl_big (p := (p.x1, p.y0)) ⟨hx1, hy0⟩
  have q11 : BdP 2000000 (2 * p.x1, 2 * p.y1) := dbl_big (p := (p.x1, p.y1)) ⟨hx1, hy1⟩
  have q01 : BdP 2000000 (2 * p.x0, 2 * p.y1) := dbl_big (p := (p.x0, p.y1)) ⟨hx0, hy1⟩
  obtain ⟨c1, f1⟩ : ∃ s, s = nearZ (pcA r k) (pcB r k) (2 * p.x0, 2 * p.y0) r.width := ⟨_, rfl⟩
  obtain ⟨c2, f2⟩ : ∃ s, s = nearZ (pcA r k) (pcB r k) (2 * p.x1, 2 * p.y0) r.width := ⟨_, rfl⟩
  obtain ⟨c3, f3⟩ : ∃ s, s = nearZ (pcA r k) (pcB r k) (2 * p.x1, 2 * p.y1) r.width := ⟨_, rfl⟩
  obtain ⟨c4, f4⟩ : ∃ s, s = nearZ (pcA r k) (pcB r k) (2 * p.x0, 2 * p.y1) r.width := ⟨_, rfl⟩
  obtain ⟨e1, h1⟩ : ∃ s, s = endZ (bx p) r.width (pcA r k) := ⟨_, rfl⟩
  obtain ⟨e2, h2⟩ : ∃ s, s = endZ (bx p) r.width (pcB r k) := ⟨_, rfl⟩
  obtain ⟨e3, h3⟩ : ∃ s, s = crossesZ (pcA r k) (pcB r k) (2 * p.x0, 2 * p.y0) (2 * p.x1, 2 * p.y1) := ⟨_, rfl⟩
  obtain ⟨e4, h4⟩ : ∃ s, s = crossesZ (pcA r k) (pcB r k) (2 * p.x1, 2 * p.y0) (2 * p.x0, 2 * p.y1) := ⟨_, rfl⟩
  have key : someR (pcA r k) (pcB r k) r.width (bx p) = (c1 || (c2 || (c3 || c4)) || (e1 || (e2 || (e3 || e4)))) := by
    subst f1; subst f2; subst f3; subst f4; subst h1; subst h2; subst h3; subst h4
    unfold someR cornersZ
    simp only [List.any_cons, List.any_nil, Bool.or_false]
  rw [key]
  have g1 := (strip_fun hr hk q00).as (r' := B c1) (congrArg B f1)
  have g2 := (strip_fun hr hk q10).as (r' := B c2) (congrArg B f2)
  have g3 := (strip_fun hr hk q11).as (r' := B c3) (congrArg B f3)
  have g4 := (strip_fun hr hk q01).as (r' := B c4) (congrArg B f4)
  have g5 := (crosses_fun (bdup2 ha) (bdup2 hb) q00 q11).as (r' := B e3) (congrArg B h3)
  have g6 := (crosses_fun (bdup2 ha) (bdup2 hb) q10 q01).as (r' := B e4) (congrArg B h4)
  have q1 : endR ⟨w64 (2 * p.x0), w64 (2 * p.y0), w64 (2 * p.x1), w64 (2 * p.y1)⟩ r.width (pcA r k) = e1 := by rw [i0, i1, j0, j1, h1]; exact endR_eq ha hw hp
  have q2 : endR ⟨w64 (2 * p.x0), w64 (2 * p.y0), w64 (2 * p.x1), w64 (2 * p.y1)⟩ r.width (pcB r k) = e2 := by rw [i0, i1, j0, j1, h2]; exact endR_eq hb hw hp
  clear key f1 f2 f3 f4 h1 h2 h3 h4 i0 i1 j0 j1
  have pc := piece_fun hr hk
  have t00 := twiceZ_fun hx0 hy0
  have t10 := twiceZ_fun hx1 hy0
  have t11 := twiceZ_fun hx1 hy1
  have t01 := twiceZ_fun hx0 hy1
  clear ha hb q00 q01 q10 q11 hw
  refine Fun.of_run cQ rfl ?_
  refine Rn.call 1000 rfl _ pc ?_
  refine Rn.call 1000 rfl _ (rcorners_fun p) ?_
  refine Rn.stop 1000 rfl ?_
  refine Rn.call 1000 rfl _ t00 ?_
  refine Rn.call 1000 rfl _ g1 ?_
  refine Rn.chk 1000 rfl (by kernel_rfl) ?_
  refine Rn.ite (b := c1) 1000 rfl (fun d1 => ?_) (fun d1 => ?_)
  · exact Rn.ret 1000 rfl rfl (congrArg B (by rw [d1]; rfl))
  refine Rn.stop 1000 rfl ?_
  refine Rn.call 1000 rfl _ t10 ?_
  refine Rn.call 1000 rfl _ g2 ?_
  refine Rn.chk 1000 rfl (by kernel_rfl) ?_
  refine Rn.ite (b := c2) 1000 rfl (fun d2 => ?_) (fun d2 => ?_)
  · exact Rn.ret 1000 rfl rfl (congrArg B (by rw [d1, d2]; rfl))
  refine Rn.stop 1000 rfl ?_
  refine Rn.call 1000 rfl _ t11 ?_
  refine Rn.call 1000 rfl _ g3 ?_
  refine Rn.chk 1000 rfl (by kernel_rfl) ?_
  refine Rn.ite (b := c3) 1000 rfl (fun d3 => ?_) (fun d3 => ?_)
  · exact Rn.ret 1000 rfl rfl (congrArg B (by rw [d1, d2, d3]; rfl))
  refine Rn.stop 1000 rfl ?_
  refine Rn.call 1000 rfl _ t01 ?_
  refine Rn.call 1000 rfl _ g4 ?_
  refine Rn.chk 1000 rfl (by kernel_rfl) ?_
  refine Rn.ite (b := c4) 1000 rfl (fun d4 => ?_) (fun d4 => ?_)
  · exact Rn.ret 1000 rfl rfl (congrArg B (by rw [d1, d2, d3, d4]; rfl))
  rw [d1, d2, d3, d4]
  clear d1 d2 d3 d4 g1 g2 g3 g4 c1 c2 c3 c4
  refine Rn.stop 1000 rfl ?_
  refine Rn.stop 1000 rfl ?_
  refine Rn.chk 1000 rfl (by kernel_rfl) ?_
  refine Rn.chk 1000 rfl (by kernel_rfl) ?_
  refine Rn.ite (b := endR ⟨w64 (2 * p.x0), w64 (2 * p.y0), w64 (2 * p.x1), w64 (2 * p.y1)⟩ r.width (pcA r k)) 1000 rfl (fun h => ?_) (fun h => ?_)
  · rw [q1] at h; exact Rn.ret 1000 rfl rfl (congrArg B (by rw [h]; rfl))
  rw [q1] at h
  refine Rn.stop 1000 rfl ?_
  refine Rn.chk 1000 rfl (by kernel_rfl) ?_
  refine Rn.chk 1000 rfl (by kernel_rfl) ?_
  refine Rn.ite (b := endR ⟨w64 (2 * p.x0), w64 (2 * p.y0), w64 (2 * p.x1), w64 (2 * p.y1)⟩ r.width (pcB r k)) 1000 rfl (fun h' => ?_) (fun h' => ?_)
  · rw [q2] at h'; exact Rn.ret 1000 rfl rfl (congrArg B (by rw [h, h']; rfl))
  rw [q2] at h'
  rw [h, h']
  refine Rn.stop 1000 rfl ?_
  refine Rn.call 1000 rfl _ t00 ?_
  refine Rn.call 1000 rfl _ t11 ?_
  refine Rn.call 1000 rfl _ g5 ?_
  refine Rn.ite (b := e3) 1000 rfl (fun h => ?_) (fun h => ?_)
  · refine Rn.chk 1000 rfl (by kernel_rfl) ?_
    exact Rn.ret 1000 rfl rfl (congrArg B (by rw [h]; rfl))
  refine Rn.call 1000 rfl _ t10 ?_
  refine Rn.call 1000 rfl _ t01 ?_
  refine Rn.call 1000 rfl _ g6 ?_
  refine Rn.chk 1000 rfl (by kernel_rfl) ?_
  exact Rn.ret 1000 rfl rfl (congrArg B (by rw [h]; rfl))
end Go.Proofs.Am

/- Roads, by the reference: how much of a patch is on one. -/
namespace Go.Proofs.Am
open Go Go.Proofs.Geo
set_option maxRecDepth 100000

def allN (r : Rd) (x : Box) (n : Nat) : Bool := (List.range n).any fun k => allP (pcA r k) (pcB r k) r.width x
def someN (r : Rd) (x : Box) : Nat → Bool
  | 0 => false
  | n + 1 => someN r x n || someR (pcA r n) (pcB r n) r.width x
def rmeetsZ (r : Rd) (x : Box) : Int := if allN r x (r.pts.length - 1) then 2 else if someN r x (r.pts.length - 1) then 1 else 0

theorem rmeets_fun {r : Rd} (hr : RdOk r) {p : Pa} (hp : PaBig p) : Fun Tryz.prog 76 [.agg (rdC r), paA p] (I (rmeetsZ r (bx p))) := by
  obtain ⟨hlo, hhi, -, hw, -⟩ := id hr
  obtain ⟨⟨hx0, hy0⟩, hx1, hy1⟩ := id hp
  have q00 : BdP 2000000 (2 * p.x0, 2 * p.y0) := dbl_big (p := (p.x0, p.y0)) ⟨hx0, hy0⟩
  have q10 : BdP 2000000 (2 * p.x1, 2 * p.y0) := dbl_big (p := (p.x1, p.y0)) ⟨hx1, hy0⟩
  have q11 : BdP 2000000 (2 * p.x1, 2 * p.y1) := dbl_big (p := (p.x1, p.y1)) ⟨hx1, hy1⟩
  have q01 : BdP 2000000 (2 * p.x0, 2 * p.y1) := dbl_big (p := (p.x0, p.y1)) ⟨hx0, hy1⟩
  have t00 := twiceZ_fun hx0 hy0
  have t10 := twiceZ_fun hx1 hy0
  have t11 := twiceZ_fun hx1 hy1
  have t01 := twiceZ_fun hx0 hy1
  refine Fun.of_run cQ rfl ?_
  refine Rn.call 1000 rfl _ (rcorners_fun p) ?_
  refine Rn.stop 1000 rfl ?_
  refine Rn.loop2 (fun _ => []) (fun k : Nat => [(2, .ptr 0 0), (3, .ptr 1 0), (5, .ptr 2 0), (6, B (someN r (bx p) k)), (7, I (k : Int))])
    (fun _ => [(0, .flat (rdC r) 54), (1, .flat [I p.x0, I p.y0, I p.x1, I p.y1] 29), (2, .flat [I p.x0, I p.y0, I p.x1, I p.y0, I p.x1, I p.y1, I p.x0, I p.y1] 112)]) 3
    (fun k => k + 1 ≤ r.pts.length ∧ ∀ j, j < k → allP (pcA r j) (pcB r j) r.width (bx p) = false) (fun k => r.pts.length - k) 0 ⟨by omega, fun j hj => absurd hj (by omega)⟩
    ⟨⟨rfl, rfl, rfl, rfl, rfl, .cons rfl (.refl rfl) (.cons rfl (.refl rfl) (.cons rfl (.refl rfl) (.cons rfl (.bool _) (.cons rfl (.int _ _) .nil)))), rfl⟩, trivial, .cons rfl (.flat' rfl rfl) (.cons rfl (.flat' rfl rfl) (.cons rfl (.flat' rfl rfl) .nil))⟩ ?_
  rintro k ⟨hk, hall⟩ ih
  have e1 : w64 ((k : Int) + 1) = ((k + 1 : Nat) : Int) := w64_nat (m := 9) (by omega) (by omega)
  refine Rn.ite (b := decide (w64 ((k : Int) + 1) < (r.pts.length : Int))) 1000 rfl (fun h => ?_) (fun h => ?_)
  · rw [e1] at h
    have h : k + 1 < r.pts.length := by have := of_decide_eq_true h; omega
    obtain ⟨c1, f1⟩ : ∃ s, s = nearZ (pcA r k) (pcB r k) (2 * p.x0, 2 * p.y0) r.width := ⟨_, rfl⟩
    obtain ⟨c2, f2⟩ : ∃ s, s = nearZ (pcA r k) (pcB r k) (2 * p.x1, 2 * p.y0) r.width := ⟨_, rfl⟩
    obtain ⟨c3, f3⟩ : ∃ s, s = nearZ (pcA r k) (pcB r k) (2 * p.x1, 2 * p.y1) r.width := ⟨_, rfl⟩
    obtain ⟨c4, f4⟩ : ∃ s, s = nearZ (pcA r k) (pcB r k) (2 * p.x0, 2 * p.y1) r.width := ⟨_, rfl⟩
    have g1 := (strip_fun hr h q00).as (r' := B c1) (congrArg B f1)
    have g2 := (strip_fun hr h q10).as (r' := B c2) (congrArg B f2)
    have g3 := (strip_fun hr h q11).as (r' := B c3) (congrArg B f3)
    have g4 := (strip_fun hr h q01).as (r' := B c4) (congrArg B f4)
    have hA : allP (pcA r k) (pcB r k) r.width (bx p) = (c1 && (c2 && (c3 && c4))) := by
      subst f1; subst f2; subst f3; subst f4
      unfold allP cornersZ
      simp only [List.all_cons, List.all_nil, Bool.and_true]
    clear f1 f2 f3 f4
    have done : (c1 && (c2 && (c3 && c4))) = true → rmeetsZ r (bx p) = 2 := fun hc => by
      unfold rmeetsZ
      have : allN r (bx p) (r.pts.length - 1) = true := by
        unfold allN; rw [List.any_eq_true]; exact ⟨k, List.mem_range.2 (by omega), by rw [hA]; exact hc⟩
      rw [this]; rfl
    have tg := touched_fun hr h hp
    obtain ⟨tb, ht⟩ : ∃ s, s = someR (pcA r k) (pcB r k) r.width (bx p) := ⟨_, rfl⟩
    rw [← ht] at tg
    obtain ⟨sk, hsk⟩ : ∃ s, s = someN r (bx p) k := ⟨_, rfl⟩
    have nxt : ∀ v : Bool, v = (sk || tb) → (c1 && (c2 && (c3 && c4))) = false → someN r (bx p) (k + 1) = v ∧ (k + 1 + 1 ≤ r.pts.length ∧ ∀ j, j < k + 1 → allP (pcA r j) (pcB r j) r.width (bx p) = false) := fun v hv hc => by
      refine ⟨by rw [hv, hsk, ht]; rfl, h, fun j hj => ?_⟩
      rcases Nat.lt_or_ge j k with hj' | hj'
      · exact hall j hj'
      · have : j = k := by omega
        subst this; rw [hA]; exact hc
    rw [← hsk]
    clear hsk ht hA hall
    refine Rn.stop 1000 rfl ?_
    refine Rn.call 1000 rfl _ t00 ?_
    refine Rn.call 1000 rfl _ g1 ?_
    refine Rn.chk 1000 rfl (by kernel_rfl) ?_
    refine Rn.stop 1000 rfl ?_
    refine Rn.ite (b := c1) 1000 rfl (fun d1 => ?_) (fun d1 => ?_)
    rotate_left
    · skip
      repeat (first | refine Rn.stop 1000 rfl ?_ | refine Rn.chk 1000 rfl (by kernel_rfl) ?_)
      refine Rn.ite (b := sk) 1000 rfl (fun hs => ?_) (fun hs => ?_)
      · refine Rn.stop 1000 rfl ?_
        obtain ⟨n1, n2⟩ := nxt _ rfl (by rw [d1]; rfl)
        refine Rn.weaken trivial ?_ (ih (k + 1) (by omega) n2)
        exact ⟨⟨rfl, rfl, rfl, rfl, rfl, .cons rfl (.refl rfl) (.cons rfl (.refl rfl) (.cons rfl (.refl rfl) (.cons rfl (by rw [n1, hs]; exact .bool true) (.cons rfl (.eq rfl (congrArg I e1)) .nil)))), rfl⟩, trivial, .cons rfl (.flat' rfl rfl) (.cons rfl (.flat' rfl rfl) (.cons rfl (.flat' rfl rfl) .nil))⟩
      · refine Rn.call 1000 rfl _ tg ?_
        refine Rn.stop 1000 rfl ?_
        obtain ⟨n1, n2⟩ := nxt _ rfl (by rw [d1]; rfl)
        refine Rn.weaken trivial ?_ (ih (k + 1) (by omega) n2)
        exact ⟨⟨rfl, rfl, rfl, rfl, rfl, .cons rfl (.refl rfl) (.cons rfl (.refl rfl) (.cons rfl (.refl rfl) (.cons rfl (.eq rfl (congrArg B (by rw [n1, hs]; rfl))) (.cons rfl (.eq rfl (congrArg I e1)) .nil)))), rfl⟩, trivial, .cons rfl (.flat' rfl rfl) (.cons rfl (.flat' rfl rfl) (.cons rfl (.flat' rfl rfl) .nil))⟩
    refine Rn.call 1000 rfl _ t10 ?_
    refine Rn.call 1000 rfl _ g2 ?_
    refine Rn.chk 1000 rfl (by kernel_rfl) ?_
    refine Rn.stop 1000 rfl ?_
    refine Rn.ite (b := c2) 1000 rfl (fun d2 => ?_) (fun d2 => ?_)
    rotate_left
    · skip
      repeat (first | refine Rn.stop 1000 rfl ?_ | refine Rn.chk 1000 rfl (by kernel_rfl) ?_)
      refine Rn.ite (b := sk) 1000 rfl (fun hs => ?_) (fun hs => ?_)
      · refine Rn.stop 1000 rfl ?_
        obtain ⟨n1, n2⟩ := nxt _ rfl (by rw [d1, d2]; rfl)
        refine Rn.weaken trivial ?_ (ih (k + 1) (by omega) n2)
        exact ⟨⟨rfl, rfl, rfl, rfl, rfl, .cons rfl (.refl rfl) (.cons rfl (.refl rfl) (.cons rfl (.refl rfl) (.cons rfl (by rw [n1, hs]; exact .bool true) (.cons rfl (.eq rfl (congrArg I e1)) .nil)))), rfl⟩, trivial, .cons rfl (.flat' rfl rfl) (.cons rfl (.flat' rfl rfl) (.cons rfl (.flat' rfl rfl) .nil))⟩
      · refine Rn.call 1000 rfl _ tg ?_
        refine Rn.stop 1000 rfl ?_
        obtain ⟨n1, n2⟩ := nxt _ rfl (by rw [d1, d2]; rfl)
        refine Rn.weaken trivial ?_ (ih (k + 1) (by omega) n2)
        exact ⟨⟨rfl, rfl, rfl, rfl, rfl, .cons rfl (.refl rfl) (.cons rfl (.refl rfl) (.cons rfl (.refl rfl) (.cons rfl (.eq rfl (congrArg B (by rw [n1, hs]; rfl))) (.cons rfl (.eq rfl (congrArg I e1)) .nil)))), rfl⟩, trivial, .cons rfl (.flat' rfl rfl) (.cons rfl (.flat' rfl rfl) (.cons rfl (.flat' rfl rfl) .nil))⟩
    refine Rn.call 1000 rfl _ t11 ?_
    refine Rn.call 1000 rfl _ g3 ?_
    refine Rn.chk 1000 rfl (by kernel_rfl) ?_
    refine Rn.stop 1000 rfl ?_
    refine Rn.ite (b := c3) 1000 rfl (fun d3 => ?_) (fun d3 => ?_)
    rotate_left
    · skip
      repeat (first | refine Rn.stop 1000 rfl ?_ | refine Rn.chk 1000 rfl (by kernel_rfl) ?_)
      refine Rn.ite (b := sk) 1000 rfl (fun hs => ?_) (fun hs => ?_)
      · refine Rn.stop 1000 rfl ?_
        obtain ⟨n1, n2⟩ := nxt _ rfl (by rw [d1, d2, d3]; rfl)
        refine Rn.weaken trivial ?_ (ih (k + 1) (by omega) n2)
        exact ⟨⟨rfl, rfl, rfl, rfl, rfl, .cons rfl (.refl rfl) (.cons rfl (.refl rfl) (.cons rfl (.refl rfl) (.cons rfl (by rw [n1, hs]; exact .bool true) (.cons rfl (.eq rfl (congrArg I e1)) .nil)))), rfl⟩, trivial, .cons rfl (.flat' rfl rfl) (.cons rfl (.flat' rfl rfl) (.cons rfl (.flat' rfl rfl) .nil))⟩
      · refine Rn.call 1000 rfl _ tg ?_
        refine Rn.stop 1000 rfl ?_
        obtain ⟨n1, n2⟩ := nxt _ rfl (by rw [d1, d2, d3]; rfl)
        refine Rn.weaken trivial ?_ (ih (k + 1) (by omega) n2)
        exact ⟨⟨rfl, rfl, rfl, rfl, rfl, .cons rfl (.refl rfl) (.cons rfl (.refl rfl) (.cons rfl (.refl rfl) (.cons rfl (.eq rfl (congrArg B (by rw [n1, hs]; rfl))) (.cons rfl (.eq rfl (congrArg I e1)) .nil)))), rfl⟩, trivial, .cons rfl (.flat' rfl rfl) (.cons rfl (.flat' rfl rfl) (.cons rfl (.flat' rfl rfl) .nil))⟩
    refine Rn.call 1000 rfl _ t01 ?_
    refine Rn.call 1000 rfl _ g4 ?_
    refine Rn.chk 1000 rfl (by kernel_rfl) ?_
    refine Rn.stop 1000 rfl ?_
    refine Rn.ite (b := c4) 1000 rfl (fun d4 => ?_) (fun d4 => ?_)
    · exact Rn.ret 1000 rfl rfl (congrArg I (done (by rw [d1, d2, d3, d4]; rfl)).symm)
    repeat (first | refine Rn.stop 1000 rfl ?_ | refine Rn.chk 1000 rfl (by kernel_rfl) ?_)
    refine Rn.ite (b := sk) 1000 rfl (fun hs => ?_) (fun hs => ?_)
    · refine Rn.stop 1000 rfl ?_
      obtain ⟨n1, n2⟩ := nxt _ rfl (by rw [d1, d2, d3, d4]; rfl)
      refine Rn.weaken trivial ?_ (ih (k + 1) (by omega) n2)
      exact ⟨⟨rfl, rfl, rfl, rfl, rfl, .cons rfl (.refl rfl) (.cons rfl (.refl rfl) (.cons rfl (.refl rfl) (.cons rfl (by rw [n1, hs]; exact .bool true) (.cons rfl (.eq rfl (congrArg I e1)) .nil)))), rfl⟩, trivial, .cons rfl (.flat' rfl rfl) (.cons rfl (.flat' rfl rfl) (.cons rfl (.flat' rfl rfl) .nil))⟩
    · refine Rn.call 1000 rfl _ tg ?_
      refine Rn.stop 1000 rfl ?_
      obtain ⟨n1, n2⟩ := nxt _ rfl (by rw [d1, d2, d3, d4]; rfl)
      refine Rn.weaken trivial ?_ (ih (k + 1) (by omega) n2)
      exact ⟨⟨rfl, rfl, rfl, rfl, rfl, .cons rfl (.refl rfl) (.cons rfl (.refl rfl) (.cons rfl (.refl rfl) (.cons rfl (.eq rfl (congrArg B (by rw [n1, hs]; rfl))) (.cons rfl (.eq rfl (congrArg I e1)) .nil)))), rfl⟩, trivial, .cons rfl (.flat' rfl rfl) (.cons rfl (.flat' rfl rfl) (.cons rfl (.flat' rfl rfl) .nil))⟩
  · rw [e1] at h
    have h : ¬ (((k + 1 : Nat) : Int) < (r.pts.length : Int)) := of_decide_eq_false h
    have hkl : k = r.pts.length - 1 := by omega
    have hn : allN r (bx p) (r.pts.length - 1) = false := by
      unfold allN; rw [List.any_eq_false]; intro j hj; rw [hall j (by rw [List.mem_range] at hj; omega)]; simp
    refine Rn.ite (b := someN r (bx p) k) 1000 rfl (fun hs => ?_) (fun hs => ?_)
    · exact Rn.ret 1000 rfl rfl (congrArg I (by unfold rmeetsZ; rw [hn, ← hkl, hs]; rfl))
    · exact Rn.ret 1000 rfl rfl (congrArg I (by unfold rmeetsZ; rw [hn, ← hkl, hs]; rfl))
end Go.Proofs.Am

/- What a scene without an error is. -/
namespace Go.Proofs.Am
open Go Go.Proofs.Geo

theorem fstE_zero {e : Nat → Int} {n : Nat} (h : (fstE e n).2 = 0) : ∀ j, j < n → e j = 0 := by
  unfold fstE at h
  cases hf : (List.range n).find? (fun i => !(e i == 0)) with
  | none =>
    rw [List.find?_eq_none] at hf
    intro j hj
    simpa using hf j (List.mem_range.2 hj)
  | some i =>
    rw [hf] at h
    have := List.find?_some hf
    simp only at h
    rw [h] at this
    simp at this
theorem good_parts {s : Sc} (h : goodE s = 0) : longB s = false ∧ (∀ i, i < s.roads.length → roadE (s.roads.take i) (s.roads.getD i default) = 0) ∧ (∀ i, i < s.trees.length → treeE (s.trees.getD i default) = 0) ∧
    (∀ i, i < s.fronts.length → frontE (s.fronts.getD i default) = 0) ∧ ∀ i, i < s.cols.length → colE (s.cols.take i) (s.cols.getD i default) = 0 := by
  unfold goodE chkE at h
  split at h
  · simp at h
  rename_i h0
  split at h
  · rename_i h1; simp only at h; simp [h] at h1
  rename_i h1
  split at h
  · rename_i h2; simp only at h; simp [h] at h2
  rename_i h2
  split at h
  · rename_i h3; simp only at h; simp [h] at h3
  rename_i h3
  split at h
  · rename_i h4; simp only at h; simp [h] at h4
  rename_i h4
  have g1 : (rdsE s).2 = 0 := by simpa using h1
  have g2 : (trsE s).2 = 0 := by simpa using h2
  have g3 : (ftsE s).2 = 0 := by simpa using h3
  have g4 : (clsE s).2 = 0 := by simpa using h4
  exact ⟨by simpa using h0, fstE_zero g1, fstE_zero g2, fstE_zero g3, fstE_zero g4⟩
theorem wild_ok {l : List Int} (h : wildB l = false) : ∀ x ∈ l, Bd 100000 x := fun x hx => by
  unfold wildB at h
  rw [List.any_eq_false] at h
  have := h x hx
  unfold farB outB at this
  simp at this
  exact this
theorem compact_ne : ∀ {l : List (Int × Int)}, ¬ (compactZ l).length < l.length → ∀ k, k + 1 < l.length → l.getD k (0, 0) ≠ l.getD (k + 1) (0, 0) := fun h k hk e => h (compact_lt hk e)
theorem road_ok {b : List Rd} {r : Rd} (h : roadE b r = 0) : RdOk r ∧ 100 ≤ r.width := by
  unfold roadE at h
  split at h; · simp at h
  split at h; · simp at h
  split at h; · simp at h
  split at h; · simp at h
  split at h; · simp at h
  split at h; · simp at h
  split at h; · simp at h
  rename_i h1 h2 h3 h4 h5 h6 h7
  simp only [decide_eq_true_eq, Bool.or_eq_true, not_or, Bool.not_eq_true] at h4 h5 h6 h7
  obtain ⟨h6, h8⟩ := h6
  unfold outB at h8
  simp only [Bool.or_eq_false_iff, decide_eq_false_iff_not] at h8
  refine ⟨⟨by omega, by omega, fun q hq => ?_, ⟨by omega, by omega⟩, fun k hk he => ?_⟩, by omega⟩
  · rw [List.any_eq_false] at h6
    have := h6 q hq
    unfold farP at this
    have := wild_ok (by simpa using this)
    exact ⟨this _ (by simp), this _ (by simp)⟩
  · refine compact_ne (l := r.pts) (by omega) k hk ?_
    unfold pcA pcB dbl at he
    simp only [Prod.mk.injEq] at he
    exact Prod.ext (by omega) (by omega)
structure TrOk (t : Tr) : Prop where
  x : Bd 100000 t.x
  y : Bd 100000 t.y
  r : 1 ≤ t.r ∧ t.r ≤ 20000
  low : 0 ≤ t.low ∧ t.low < t.high
  high : t.high ≤ 1000
structure ClOk (c : Cl) : Prop where
  x : Bd 100000 c.x
  y : Bd 100000 c.y
  h : 1 ≤ c.h ∧ c.h ≤ 200
  dx : Bd 1000 c.dx
  dy : Bd 1000 c.dy
  d : ¬ (c.dx = 0 ∧ c.dy = 0)
structure WnOk (w : Wn) : Prop where
  til : w.til ≤ 1000
  fro : 0 ≤ w.fro ∧ w.fro < w.til
  high : w.high ≤ 1000
  low : 0 ≤ w.low ∧ w.low < w.high
structure FtOk (f : Ft) : Prop where
  ax : Bd 100000 f.ax
  ay : Bd 100000 f.ay
  bx : Bd 100000 f.bx
  bY : Bd 100000 f.bY
  ne : ¬ (f.ax = f.bx ∧ f.ay = f.bY)
  len : f.ws.length ≤ 6
  ws : ∀ w ∈ f.ws, WnOk w
theorem tree_ok {t : Tr} (h : treeE t = 0) : TrOk t := by
  unfold treeE at h
  split at h; · simp at h
  rename_i h1
  rw [← rtree_eq] at h1
  unfold rtreeW outB at h1
  simp only [Bool.or_eq_true, decide_eq_true_eq, not_or, Bool.not_eq_true] at h1
  obtain ⟨h1, ⟨h2, h3⟩, h4, h5, h6⟩ := h1
  have := wild_ok h1
  exact ⟨this _ (by simp), this _ (by simp), by omega, by omega, by omega⟩
theorem col_ok {b : List Cl} {c : Cl} (h : colE b c = 0) : ClOk c := by
  unfold colE at h
  split at h; · simp at h
  split at h; · simp at h
  split at h; · simp at h
  split at h; · simp at h
  rename_i h1 h2 h3 h4
  unfold colW outB at h3
  simp only [Bool.or_eq_true, decide_eq_true_eq, not_or, Bool.not_eq_true] at h3
  obtain ⟨h3, ⟨h5, h6⟩, ⟨h7, h8⟩, h9, h10⟩ := h3
  have := wild_ok h3
  exact ⟨this _ (by simp), this _ (by simp), by omega, ⟨by omega, by omega⟩, ⟨by omega, by omega⟩, fun ⟨a, b⟩ => h4 (by simp [a, b])⟩
theorem win_ok {w : Wn} (h : winW w = false) : WnOk w := by
  rw [← rwin_eq] at h
  unfold rwinW at h
  simp only [Bool.or_eq_false_iff, decide_eq_false_iff_not] at h
  exact ⟨by omega, by omega, by omega, by omega⟩
theorem front_ok {f : Ft} (h : frontE f = 0) : FtOk f := by
  unfold frontE at h
  split at h; · simp at h
  split at h; · simp at h
  split at h; · simp at h
  split at h; · simp at h
  rename_i h1 h2 h3 h4
  have := wild_ok (by simpa using h1)
  simp only [decide_eq_true_eq] at h3
  refine ⟨this _ (by simp), this _ (by simp), this _ (by simp), this _ (by simp), fun ⟨a, b⟩ => h2 (by simp [a, b]), by omega, fun w hw => ?_⟩
  have h4 : f.ws.any winW = false := by simpa using h4
  rw [List.any_eq_false] at h4
  exact win_ok (by simpa using h4 w hw)
structure ScOk (s : Sc) : Prop where
  nr : s.roads.length ≤ 8
  nt : s.trees.length ≤ 12
  nf : s.fronts.length ≤ 8
  nc : s.cols.length ≤ 24
  rd : ∀ i, i < s.roads.length → RdOk (s.roads.getD i default)
  tr : ∀ i, i < s.trees.length → TrOk (s.trees.getD i default)
  ft : ∀ i, i < s.fronts.length → FtOk (s.fronts.getD i default)
  cl : ∀ i, i < s.cols.length → ClOk (s.cols.getD i default)
theorem good_ok {s : Sc} (h : goodE s = 0) : ScOk s := by
  obtain ⟨h0, h1, h2, h3, h4⟩ := good_parts h
  unfold longB at h0
  simp only [Bool.or_eq_false_iff, decide_eq_false_iff_not] at h0
  exact ⟨by omega, by omega, by omega, by omega, fun i hi => (road_ok (h1 i hi)).1, fun i hi => tree_ok (h2 i hi), fun i hi => front_ok (h3 i hi), fun i hi => col_ok (h4 i hi)⟩
theorem rough_ok {p : Pa} (h : roughB p = false) : PaOk p ∧ (bx p).ok := by
  unfold roughB at h
  simp only [Bool.or_eq_false_iff, decide_eq_false_iff_not] at h
  obtain ⟨h1, h2, h3⟩ := h
  have := wild_ok h1
  exact ⟨⟨⟨this _ (by simp), this _ (by simp)⟩, this _ (by simp), this _ (by simp)⟩, by simp only [bx]; omega, by simp only [bx]; omega⟩

/-! ## The program's and the reference's answer about a patch -/
theorem all_some {a b : Int × Int} {w : Int} {x : Box} (h : allP a b w x = true) : someP a b w x = true := by
  unfold allP cornersZ at h
  unfold someP cornersZ
  simp only [List.all_cons, Bool.and_eq_true] at h
  simp only [List.any_cons, h.1, Bool.true_or]
theorem someP_R {a b : Int × Int} {w : Int} {x : Box} (hx : x.ok) (hab : a ≠ b) : someP a b w x = someR a b w x := by
  rw [Bool.eq_iff_iff, someP_iff hx hab, someR_iff hx hab]
theorem allN_succ (r : Rd) (x : Box) (n : Nat) : allN r x (n + 1) = (allN r x n || allP (pcA r n) (pcB r n) r.width x) := by
  unfold allN; rw [List.range_succ, List.any_append]; simp
theorem meetN_eq {r : Rd} (hr : RdOk r) {x : Box} (hx : x.ok) : ∀ n, n + 1 ≤ r.pts.length → meetN r x n = if allN r x n then 2 else if someN r x n then 1 else 0
  | 0, _ => rfl
  | n + 1, hn => by
    rw [meetN, meetN_eq hr hx n (by omega), allN_succ, someN, mx2_eq]
    unfold meetP
    rw [someP_R hx (hr.ne n (by omega))]
    have h3 : allP (pcA r n) (pcB r n) r.width x = true → someR (pcA r n) (pcB r n) r.width x = true := fun h => by rw [← someP_R hx (hr.ne n (by omega))]; exact all_some h
    revert h3
    generalize allP (pcA r n) (pcB r n) r.width x = a
    generalize someR (pcA r n) (pcB r n) r.width x = b
    generalize allN r x n = c
    generalize someN r x n = d
    revert a b c d
    decide
theorem meetsZ_eq {r : Rd} (hr : RdOk r) {x : Box} (hx : x.ok) : meetsZ r x = rmeetsZ r x := meetN_eq hr hx _ (by have := hr.lo; omega)
end Go.Proofs.Am

/- On and Meets, the program's and the reference's. -/
namespace Go.Proofs.Am
open Go Go.Proofs.Geo
set_option maxRecDepth 100000

noncomputable abbrev fsP : List (Nat × Func) := [(25, Tryz.f25), (26, Tryz.f26), (22, Tryz.f22), (27, Tryz.f27), (15, Tryz.f15), (16, Tryz.f16), (17, Tryz.f17), (18, Tryz.f18)]
theorem cP : CtxOK Tryz.prog (ctx [] fsP) := ctx_ok (show FsOK Tryz.prog fsP from ⟨Tryz.func25, Tryz.call25, Tryz.func26, Tryz.call26, Tryz.func22, Tryz.call22, Tryz.func27, Tryz.call27, Tryz.func15, Tryz.call15, Tryz.func16, Tryz.call16, Tryz.func17, Tryz.call17, Tryz.func18, Tryz.call18, trivial⟩) rfl

theorem idx_out {i : Int} {n : Nat} (hn : n ≤ 9223372036854775807) : outB i 0 (w64 ((n : Int) - 1)) = (decide (i < 0) || decide (i ≥ (n : Int))) := by
  rw [w64_id (by omega)]
  unfold outB; congr 1
  exact decide_eq_decide.2 (by omega)
theorem checked1_fun (s : Sc) (hs : s.ok) (i : Int) (n : Nat) (hn : n ≤ 9223372036854775807) : Fun Tryz.prog 44 [scA s, varA [i, (n : Int)]] (I (idxE s i (n : Int))) := by
  unfold idxE
  rw [← idx_out (i := i) hn]
  refine Fun.of_run cH rfl ?_
  refine Rn.call 1000 rfl _ (check_fun s hs) ?_
  refine Rn.stop 1000 rfl ?_
  refine Rn.ite 1000 rfl (fun h0 => ?_) (fun h0 => ?_)
  rotate_left
  · exact absurd (of_decide_eq_false h0) (by simp)
  refine Rn.ite (b := goodE s == 0) 1000 rfl (fun h => ?_) (fun h => ?_)
  · repeat (refine Rn.asr 1000 rfl (by first | rfl | simp [inB]) ?_)
    refine Rn.call 1000 rfl _ (out_fun _ _ _) ?_
    refine Rn.chk 1000 rfl (by kernel_rfl) ?_
    refine Rn.ite (b := outB i 0 (w64 ((n : Int) - 1))) 1000 rfl (fun h' => ?_) (fun h' => ?_)
    · refine Rn.stop 1000 rfl ?_
      refine Rn.ite 1000 rfl (fun h1 => ?_) (fun h1 => ?_)
      · exact absurd (of_decide_eq_true h1) (by simp)
      exact Rn.ret 1000 rfl rfl (by rw [h, h']; rfl)
    · refine Rn.stop 1000 rfl ?_
      refine Rn.ite 1000 rfl (fun h1 => ?_) (fun h1 => ?_)
      · exact absurd (of_decide_eq_true h1) (by simp)
      exact Rn.ret 1000 rfl rfl (by rw [h, h']; rfl)
  · exact Rn.ret 1000 rfl rfl (by rw [h]; rfl)

/-- The error of a scene, an index and something else. -/
def errS (s : Sc) (i : Int) (n : Nat) (bad : Bool) : Int := if idxE s i n == 0 then if bad then 7 else 0 else idxE s i n
theorem errS_1 {s : Sc} {i : Int} {n : Nat} {b : Bool} (h : (idxE s i n == 0) = false) : errS s i n b = idxE s i n := by unfold errS; rw [h]; rfl
theorem idxE_zero {s : Sc} {i : Int} {n : Nat} (h : idxE s i n = 0) : goodE s = 0 ∧ 0 ≤ i ∧ i < n := by
  unfold idxE at h
  split at h
  · cases h
  · rename_i h1
    rw [h] at h1
    simp only [beq_self_eq_true, Bool.true_and, Bool.or_eq_true, decide_eq_true_eq, not_or] at h1
    exact ⟨h, by omega, by omega⟩

def onS (s : Sc) (i x y : Int) : Bool × Int := if errS s i s.roads.length (wildB [x, y]) == 0 then (onZ (s.roads.getD i.toNat default) x y, 0) else (false, errS s i s.roads.length (wildB [x, y]))
theorem bd_xy {x y : Int} (h : wildB [x, y] = false) : Bd 100000 x ∧ Bd 100000 y := ⟨wild_ok h _ (by simp), wild_ok h _ (by simp)⟩
theorem On_fun (s : Sc) (hs : s.ok) (i x y : Int) : Fun Tryz.prog 25 [scA s, I i, I x, I y] (.tup [B (onS s i x y).1, I (onS s i x y).2]) := by
  refine Fun.of_run cP rfl ?_
  refine Rn.call 1000 rfl _ (checked1_fun s hs i s.roads.length hs.1) ?_
  refine Rn.ite (b := !(idxE s i s.roads.length == 0)) 1000 rfl (fun h => ?_) (fun h => ?_)
  · rw [Bool.not_eq_true'] at h
    exact Rn.ret 1000 rfl rfl (by unfold onS; rw [errS_1 h, h]; rfl)
  rw [Bool.not_eq_false'] at h
  refine Rn.call 1000 rfl _ (wild_fun [x, y] (by simp [small])) ?_
  refine Rn.ite (b := wildB [x, y]) 1000 rfl (fun h1 => ?_) (fun h1 => ?_)
  · exact Rn.ret 1000 rfl rfl (by unfold onS errS; rw [h, h1]; rfl)
  obtain ⟨g, i0, i1⟩ := idxE_zero (eq_of_beq h)
  obtain ⟨hx, hy⟩ := bd_xy h1
  have in1 : inB i s.roads.length = true := by simp only [inB, Bool.and_eq_true, decide_eq_true_eq]; omega
  refine Rn.asr 1000 rfl in1 ?_
  refine Rn.call 1000 rfl _ (on_fun ((good_ok g).rd i.toNat (by omega)) hx hy) ?_
  exact Rn.ret 1000 rfl rfl (by unfold onS errS; rw [h, h1]; rfl)
theorem rOn_fun (s : Sc) (hs : s.ok) (i x y : Int) : Fun Tryz.prog 26 [scA s, I i, I x, I y] (.tup [B (onS s i x y).1, I (onS s i x y).2]) := by
  refine Fun.of_run cP rfl ?_
  refine Rn.call 1000 rfl _ (indexed_fun s hs i s.roads.length) ?_
  refine Rn.ite (b := idxE s i s.roads.length == 0) 1000 rfl (fun h => ?_) (fun h => ?_)
  · refine Rn.call 1000 rfl _ (placed_fun [x, y] (by simp [small])) ?_
    refine Rn.ite (b := !!wildB [x, y]) 1000 rfl (fun h1 => ?_) (fun h1 => ?_)
    · rw [Bool.not_not] at h1
      exact Rn.ret 1000 rfl rfl (by unfold onS errS; rw [h, h1]; rfl)
    rw [Bool.not_not] at h1
    obtain ⟨g, i0, i1⟩ := idxE_zero (eq_of_beq h)
    obtain ⟨hx, hy⟩ := bd_xy h1
    have in1 : inB i s.roads.length = true := by simp only [inB, Bool.and_eq_true, decide_eq_true_eq]; omega
    refine Rn.ite (b := !(idxE s i s.roads.length == 0)) 1000 rfl (fun h2 => ?_) (fun h2 => ?_)
    · rw [h] at h2; cases h2
    refine Rn.asr 1000 rfl in1 ?_
    refine Rn.call 1000 rfl _ (ron_fun ((good_ok g).rd i.toNat (by omega)) hx hy) ?_
    exact Rn.ret 1000 rfl rfl (by unfold onS errS; rw [h, h1]; rfl)
  · refine Rn.ite (b := !(idxE s i s.roads.length == 0)) 1000 rfl (fun h2 => ?_) (fun h2 => ?_)
    · exact Rn.ret 1000 rfl rfl (by unfold onS; rw [errS_1 h, h]; rfl)
    · rw [h] at h2; cases h2

def meetsS (s : Sc) (i : Int) (p : Pa) : Int × Int := if errS s i s.roads.length (roughB p) == 0 then (meetsZ (s.roads.getD i.toNat default) (bx p), 0) else (0, errS s i s.roads.length (roughB p))
theorem Meets_fun (s : Sc) (hs : s.ok) (i : Int) (p : Pa) : Fun Tryz.prog 22 [scA s, I i, paA p] (PI (meetsS s i p)) := by
  refine Fun.of_run cP rfl ?_
  refine Rn.call 1000 rfl _ (checked1_fun s hs i s.roads.length hs.1) ?_
  refine Rn.ite (b := !(idxE s i s.roads.length == 0)) 1000 rfl (fun h => ?_) (fun h => ?_)
  · rw [Bool.not_eq_true'] at h
    exact Rn.ret 1000 rfl rfl (by unfold meetsS; rw [errS_1 h, h]; rfl)
  rw [Bool.not_eq_false'] at h
  refine Rn.call 1000 rfl _ (rough_fun p) ?_
  refine Rn.ite (b := roughB p) 1000 rfl (fun h1 => ?_) (fun h1 => ?_)
  · exact Rn.ret 1000 rfl rfl (by unfold meetsS errS; rw [h, h1]; rfl)
  obtain ⟨g, i0, i1⟩ := idxE_zero (eq_of_beq h)
  have in1 : inB i s.roads.length = true := by simp only [inB, Bool.and_eq_true, decide_eq_true_eq]; omega
  refine Rn.asr 1000 rfl in1 ?_
  refine Rn.call 1000 rfl _ (meets_fun ((good_ok g).rd i.toNat (by omega)) (rough_ok h1).1.big) ?_
  refine Rn.chk 1000 rfl (by kernel_rfl) ?_
  exact Rn.ret 1000 rfl rfl (by unfold meetsS errS; rw [h, h1]; rfl)
theorem rMeets_fun (s : Sc) (hs : s.ok) (i : Int) (p : Pa) : Fun Tryz.prog 27 [scA s, I i, paA p] (PI (meetsS s i p)) := by
  refine Fun.of_run cP rfl ?_
  refine Rn.call 1000 rfl _ (indexed_fun s hs i s.roads.length) ?_
  refine Rn.ite (b := idxE s i s.roads.length == 0) 1000 rfl (fun h => ?_) (fun h => ?_)
  · refine Rn.call 1000 rfl _ (patch_fun p) ?_
    refine Rn.ite (b := !!roughB p) 1000 rfl (fun h1 => ?_) (fun h1 => ?_)
    · rw [Bool.not_not] at h1
      exact Rn.ret 1000 rfl rfl (by unfold meetsS errS; rw [h, h1]; rfl)
    rw [Bool.not_not] at h1
    obtain ⟨g, i0, i1⟩ := idxE_zero (eq_of_beq h)
    have in1 : inB i s.roads.length = true := by simp only [inB, Bool.and_eq_true, decide_eq_true_eq]; omega
    refine Rn.ite (b := !(idxE s i s.roads.length == 0)) 1000 rfl (fun h2 => ?_) (fun h2 => ?_)
    · rw [h] at h2; cases h2
    refine Rn.asr 1000 rfl in1 ?_
    refine Rn.call 1000 rfl _ (rmeets_fun ((good_ok g).rd i.toNat (by omega)) (rough_ok h1).1.big) ?_
    refine Rn.chk 1000 rfl (by kernel_rfl) ?_
    exact Rn.ret 1000 rfl rfl (by unfold meetsS errS; rw [h, h1, meetsZ_eq ((good_ok g).rd i.toNat (by omega)) (rough_ok h1).2]; rfl)
  · refine Rn.ite (b := !(idxE s i s.roads.length == 0)) 1000 rfl (fun h2 => ?_) (fun h2 => ?_)
    · exact Rn.ret 1000 rfl rfl (by unfold meetsS; rw [errS_1 h, h]; rfl)
    · rw [h] at h2; cases h2
end Go.Proofs.Am
