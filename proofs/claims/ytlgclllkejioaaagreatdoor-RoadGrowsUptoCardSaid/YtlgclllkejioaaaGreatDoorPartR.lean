/- Greater crowns and wider roads: plain laws. -/
import Derived.Test.YtlgclllkejioaaaGreatDoorPartQ
set_option linter.unusedVariables false
set_option linter.unusedSimpArgs false
namespace Go.Proofs.Am
open Go Go.Proofs.Geo
set_option maxRecDepth 100000

/-- A tree with a crown that holds another one's. -/
structure GrT (t t' : Tr) : Prop where
  x : t'.x = t.x
  y : t'.y = t.y
  r : t.r ≤ t'.r
  low : t'.low ≤ t.low
  high : t.high ≤ t'.high
/-- A scene whose trees and roads hold another one's. -/
structure Grw (s u : Sc) : Prop where
  nr : u.roads.length = s.roads.length
  nt : s.trees.length ≤ u.trees.length
  cols : u.cols = s.cols
  pts : ∀ k, k < s.roads.length → (u.roads.getD k default).pts = (s.roads.getD k default).pts
  wid : ∀ k, k < s.roads.length → (s.roads.getD k default).width ≤ (u.roads.getD k default).width
  tr : ∀ k, k < s.trees.length → GrT (s.trees.getD k default) (u.trees.getD k default)
theorem GrT.refl (t : Tr) : GrT t t := ⟨rfl, rfl, Int.le_refl _, Int.le_refl _, Int.le_refl _⟩

theorem sq_le {a b : Int} (h0 : 0 ≤ a) (h : a ≤ b) : (a : Rat) * a ≤ (b : Rat) * b := by
  rw [← Rat.intCast_mul, ← Rat.intCast_mul, cast_le]
  exact Int.mul_le_mul h h h0 (by omega)
theorem shad_grow {c : Cl} {t t' : Tr} (hc : ClOk c) (ht : TrOk t) (ht' : TrOk t') (g : GrT t t') {q : Pt} (h : lowB c t = false ∧ ShadP (castC c t) q) : lowB c t' = false ∧ ShadP (castC c t') q := by
  obtain ⟨h1, s, s0, s1, hd⟩ := h
  obtain ⟨gx, gy, gr, gl, gh⟩ := g
  refine ⟨?_, s, ?_, ?_, ?_⟩
  · unfold lowB at h1 ⊢
    have := of_decide_eq_false h1
    exact decide_eq_false (by omega)
  · rw [castC_eq hc ht] at s0
    rw [castC_eq hc ht']
    exact Rat.le_trans (cast_le.2 (by simp only; omega)) s0
  · rw [castC_eq hc ht] at s1
    rw [castC_eq hc ht']
    exact Rat.le_trans s1 (cast_le.2 (by simp only; omega))
  · rw [castC_eq hc ht] at hd
    rw [castC_eq hc ht']
    simp only [gx, gy] at hd ⊢
    have hh := hc.h
    have hr := ht.r
    exact Rat.le_trans hd (sq_le (Int.mul_nonneg (by omega) (by omega)) (Int.mul_le_mul_of_nonneg_left gr (by omega)))
theorem idx_le {α : Type} {p p' : α → Bool} {l l' : List α} {d : α} (hl : l.length ≤ l'.length) (h : ∀ k, k < l.length → p (l.getD k d) = true → p' (l'.getD k d) = true) (h0 : 0 ≤ idx p l) : 0 ≤ idx p' l' ∧ idx p' l' ≤ idx p l := by
  unfold idx at h0 ⊢
  cases e : l.findIdx? p with
  | none => rw [e] at h0; simp at h0
  | some i =>
    obtain ⟨hi, hp, _⟩ := List.findIdx?_eq_some_iff_getElem.1 e
    have h2 := h i hi (by rw [List.getD_eq_getElem?_getD, List.getElem?_eq_getElem hi]; exact hp)
    rw [List.getD_eq_getElem?_getD, List.getElem?_eq_getElem (by omega)] at h2
    simp only [Option.getD_some] at h2
    cases e' : l'.findIdx? p' with
    | none =>
      rw [List.findIdx?_eq_none_iff] at e'
      have hi' : i < l'.length := by omega
      have := e' l'[i] (List.getElem_mem hi')
      rw [h2] at this; cases this
    | some j =>
      obtain ⟨hj, hq, hn⟩ := List.findIdx?_eq_some_iff_getElem.1 e'
      refine ⟨by simp, ?_⟩
      simp only
      rcases Nat.lt_or_ge i j with hij | hij
      · have := hn i hij
        rw [h2] at this; simp at this
      · omega
theorem idx_more {α : Type} {p : α → Bool} {l l2 : List α} (h0 : 0 ≤ idx p l) : idx p (l ++ l2) = idx p l := by
  unfold idx at h0 ⊢
  rw [List.findIdx?_append]
  cases e : l.findIdx? p with
  | none => rw [e] at h0; simp at h0
  | some i => rfl

theorem Grw.idx {s u : Sc} (hs : goodE s = 0) (hu : goodE u = 0) (i n : Int) : idxE u i n = idxE s i n := by unfold idxE; rw [hs, hu]
theorem Grw.err {s u : Sc} (hs : goodE s = 0) (hu : goodE u = 0) (i : Int) (n : Nat) (b : Bool) : errS u i n b = errS s i n b := by unfold errS; rw [Grw.idx hs hu]
theorem err_idx {s : Sc} {i : Int} {n : Nat} {b : Bool} (h : errS s i n b = 0) : idxE s i n = 0 ∧ b = false := by
  unfold errS at h
  split at h
  · rename_i h0
    refine ⟨eq_of_beq h0, ?_⟩
    cases b
    · rfl
    · simp at h
  · rename_i h0
    rw [h] at h0; simp at h0
theorem Grw.on {s u : Sc} (g : Grw s u) (hs : goodE s = 0) (hu : goodE u = 0) (i x y : Int) : (onS u i x y).2 = (onS s i x y).2 ∧ ((onS s i x y).1 = true → (onS u i x y).1 = true) := by
  unfold onS
  rw [g.nr, Grw.err hs hu]
  split
  · rename_i h
    refine ⟨rfl, fun ho => ?_⟩
    have h0 := (err_idx (eq_of_beq h)).1
    obtain ⟨_, i0, i1⟩ := idxE_zero h0
    have hk : i.toNat < s.roads.length := by omega
    have hr := (good_ok hs).rd i.toNat hk
    have e := g.pts _ hk
    have w := g.wid _ hk
    simp only at ho ⊢
    rw [on_iff] at ho ⊢
    obtain ⟨k, hk2, h2⟩ := ho
    refine ⟨k, by rw [e]; exact hk2, ?_⟩
    unfold OnK pcA pcB at h2 ⊢
    rw [e]
    obtain ⟨t, t0, t1, hd⟩ := h2
    have := (road_ok ((good_parts hs).2.1 _ hk)).2
    exact ⟨t, t0, t1, Rat.le_trans hd (sq_le (by omega) w)⟩
  · exact ⟨rfl, fun h => h⟩
theorem Grw.meets {s u : Sc} (g : Grw s u) (hs : goodE s = 0) (hu : goodE u = 0) (i : Int) (p : Pa) : (meetsS u i p).2 = (meetsS s i p).2 ∧ (meetsS s i p).1 ≤ (meetsS u i p).1 := by
  unfold meetsS
  rw [g.nr, Grw.err hs hu]
  split
  · rename_i h
    obtain ⟨h0, hp⟩ := err_idx (eq_of_beq h)
    obtain ⟨_, i0, i1⟩ := idxE_zero h0
    have hk : i.toNat < s.roads.length := by omega
    have hr := (good_ok hs).rd i.toNat hk
    have hr' := (good_ok hu).rd i.toNat (by rw [g.nr]; exact hk)
    have e := g.pts _ hk
    have w := g.wid _ hk
    have w0 := (road_ok ((good_parts hs).2.1 _ hk)).2
    refine ⟨rfl, ?_⟩
    simp only
    rw [meetsZ_eq hr (rough_ok hp).2, meetsZ_eq hr' (rough_ok hp).2]
    refine (meets_area hr).le (meets_area hr') hp fun k hk => ⟨k, by rw [e]; exact hk, fun q h2 => ?_⟩
    unfold OnK pcA pcB at h2 ⊢
    rw [e]
    obtain ⟨t, t0, t1, hd⟩ := h2
    exact ⟨t, t0, t1, Rat.le_trans hd (sq_le (by omega) w)⟩
  · exact ⟨rfl, Int.le_refl _⟩
theorem Grw.col {s u : Sc} (g : Grw s u) (i : Int) : colOf u i = colOf s i := by unfold colOf; rw [g.cols]
theorem Grw.shade {s u : Sc} (g : Grw s u) (hs : goodE s = 0) (hu : goodE u = 0) (i : Int) (p : Pa) : (shadeS s i p).1 ≤ (shadeS u i p).1 := by
  unfold shadeS
  rw [g.cols, Grw.err hs hu, g.col]
  split
  · rename_i h
    obtain ⟨h0, hp⟩ := err_idx (eq_of_beq h)
    obtain ⟨_, i0, i1⟩ := idxE_zero h0
    have ok := good_ok hs
    have ok' := good_ok hu
    have hc := ok.col i0 i1
    refine (shade_area hc ok.tr).le (shade_area hc ok'.tr) hp fun k hk => ⟨k, by have := g.nt; omega, fun q h2 => ?_⟩
    exact shad_grow hc (ok.tr k hk) (ok'.tr k (by have := g.nt; omega)) (g.tr k hk) h2
  · exact Int.le_refl _
theorem Grw.shaded {s u : Sc} (g : Grw s u) (hs : goodE s = 0) (hu : goodE u = 0) (i x y : Int) : (shadedS u i x y).2 = (shadedS s i x y).2 ∧ (0 ≤ (shadedS s i x y).1 → 0 ≤ (shadedS u i x y).1 ∧ (shadedS u i x y).1 ≤ (shadedS s i x y).1) := by
  unfold shadedS
  rw [g.cols, Grw.err hs hu, g.col]
  split
  · rename_i h
    obtain ⟨h0, _⟩ := err_idx (eq_of_beq h)
    obtain ⟨_, i0, i1⟩ := idxE_zero h0
    have ok := good_ok hs
    have ok' := good_ok hu
    have hc := ok.col i0 i1
    refine ⟨rfl, fun ha => idx_le (d := default) g.nt (fun k hk h2 => ?_) ha⟩
    have hk' : k < u.trees.length := by have := g.nt; omega
    exact (shadT_iff hc (ok'.tr k hk')).2 (shad_grow hc (ok.tr k hk) (ok'.tr k hk') (g.tr k hk) ((shadT_iff hc (ok.tr k hk)).1 h2))
  · exact ⟨rfl, fun _ => by simp⟩
/-- One tree more. -/
def moreS (s : Sc) (t : Tr) : Sc := ⟨s.roads, s.trees ++ [t], s.fronts, s.cols⟩
theorem more_grw (s : Sc) (t : Tr) : Grw s (moreS s t) := by
  refine ⟨rfl, by simp [moreS], rfl, fun _ _ => rfl, fun _ _ => Int.le_refl _, fun k hk => ?_⟩
  have : (moreS s t).trees.getD k default = s.trees.getD k default := by
    unfold moreS
    simp only
    rw [List.getD_eq_getElem?_getD, List.getD_eq_getElem?_getD, List.getElem?_append_left hk]
  rw [this]; exact .refl _
theorem more_shaded {s : Sc} {t : Tr} (hs : goodE s = 0) (hu : goodE (moreS s t) = 0) (i x y : Int) : (shadedS (moreS s t) i x y).2 = (shadedS s i x y).2 ∧ (0 ≤ (shadedS s i x y).1 → (shadedS (moreS s t) i x y).1 = (shadedS s i x y).1) := by
  refine ⟨((more_grw s t).shaded hs hu i x y).1, fun ha => ?_⟩
  unfold shadedS at ha ⊢
  rw [show (moreS s t).cols = s.cols from rfl, Grw.err hs hu, (more_grw s t).col]
  split
  · rename_i h
    rw [h] at ha
    exact idx_more ha
  · rfl
end Go.Proofs.Am
