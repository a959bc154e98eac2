/- Part of the proofs about the layer of roads: Shadows in valid scenes: the program's and the reference's are the same. Shaded and Shade, the program's and the reference's. Shade, the program's and the reference's. Shade, the reference's. The scene of the examples. The calls that keep the statements awake. The statements RoadShades and RoadChecks, walked. The arguments of a statement, opened: what they read as, they are; and what a call that only reads leaves behind. MADE BY gen_op.py: the types of the arguments, opened. -/
import Derived.Test.YtlgclllkejioaaaGreatDoorPartJ
import Derived.Deep.Slices
import Derived.Carry
import Derived.OpenShut
import Derived.ChangeSame
set_option linter.unusedVariables false
set_option linter.unusedSimpArgs false

/- Shadows in valid scenes: the program's and the reference's are the same. -/
namespace Go.Proofs.Am
open Go Go.Proofs.Geo
set_option maxRecDepth 100000

theorem touches_fun' (c : Cast) (q : Bool) (p : Pa) (hb : q = false → ∀ q ∈ eightB c p, BdP 100000000 q) (hm : BdP 100000000 (c.mx, c.my)) (hr : Bd 100000000 c.r) : Fun Tryz.prog 57 [castA c q, paA p] (B (!q && touchRB (eightB c p) (c.mx, c.my) c.r)) := by
  cases q with
  | false => exact touches_fun c false p (hb rfl) hm hr
  | true =>
    refine Fun.of_run cT rfl ?_
    refine Rn.ite (b := true) 1000 rfl (fun h => ?_) (fun h => ?_)
    · exact Rn.ret 1000 rfl rfl rfl
    · cases h
theorem rtouches_fun' (c : Cl) (t : Tr) (p : Pa) (hb : isB c t = true → ∀ q ∈ eightB (rcastC c t) p, BdP 100000000 q) (hm : BdP 100000000 ((rcastC c t).mx, (rcastC c t).my)) (hr : Bd 100000000 (rcastC c t).r) :
    Fun Tryz.prog 60 [.agg (clC c), .agg (trC t), paA p] (B (isB c t && touchRB (eightB (rcastC c t) p) ((rcastC c t).mx, (rcastC c t).my) (rcastC c t).r)) := by
  by_cases h0 : isB c t = true
  · exact rtouches_fun c t p (hb h0) hm hr
  · refine Fun.of_run cE rfl ?_
    refine Rn.call 1000 rfl _ (reach_fun c t) ?_
    refine Rn.ite (b := !isB c t) 1000 rfl (fun h => ?_) (fun h => ?_)
    · exact Rn.ret 1000 rfl rfl (congrArg B (by rw [Bool.not_eq_true'] at h; rw [h]; rfl))
    · exact absurd (by simpa using h) h0

theorem castC_eq {c : Cl} {t : Tr} (hc : ClOk c) (ht : TrOk t) : castC c t = ⟨c.x, c.y, c.h, max 0 (c.h - t.high), c.h - t.low, c.h * t.x, c.h * t.y, c.h * t.r⟩ := by
  obtain ⟨⟨_, _⟩, ⟨_, _⟩, ⟨h1, h2⟩, _, _, _⟩ := hc
  obtain ⟨⟨x1, x2⟩, ⟨y1, y2⟩, ⟨r1, r2⟩, ⟨l1, l2⟩, g1⟩ := ht
  have a := mulbd' (x := c.h) (y := t.x) (a := 200) (b := 100000) (c := 20000000) ⟨by omega, by omega⟩ ⟨x1, x2⟩ (by decide)
  have b := mulbd' (x := c.h) (y := t.y) (a := 200) (b := 100000) (c := 20000000) ⟨by omega, by omega⟩ ⟨y1, y2⟩ (by decide)
  have d := mulbd' (x := t.r) (y := c.h) (a := 20000) (b := 200) (c := 4000000) ⟨by omega, by omega⟩ ⟨by omega, by omega⟩ (by decide)
  obtain ⟨a1, a2⟩ := a
  obtain ⟨b1, b2⟩ := b
  obtain ⟨d1, d2⟩ := d
  unfold castC
  rw [w64_id (x := c.h - t.high) (by omega), w64_id (x := c.h - t.low) (by omega), w64_id (x := c.h * t.x) (by omega), w64_id (x := c.h * t.y) (by omega), w64_id (x := t.r * c.h) (by omega), Int.mul_comm t.r]
  congr 1
  omega
theorem rcastC_eq {c : Cl} {t : Tr} (hc : ClOk c) (ht : TrOk t) : rcastC c t = castC c t := by
  rw [castC_eq hc ht]
  obtain ⟨⟨_, _⟩, ⟨_, _⟩, ⟨h1, h2⟩, _, _, _⟩ := hc
  obtain ⟨⟨x1, x2⟩, ⟨y1, y2⟩, ⟨r1, r2⟩, ⟨l1, l2⟩, g1⟩ := ht
  have a := mulbd' (x := c.h) (y := t.x) (a := 200) (b := 100000) (c := 20000000) ⟨by omega, by omega⟩ ⟨x1, x2⟩ (by decide)
  have b := mulbd' (x := c.h) (y := t.y) (a := 200) (b := 100000) (c := 20000000) ⟨by omega, by omega⟩ ⟨y1, y2⟩ (by decide)
  have d := mulbd' (x := c.h) (y := t.r) (a := 200) (b := 20000) (c := 4000000) ⟨by omega, by omega⟩ ⟨by omega, by omega⟩ (by decide)
  obtain ⟨a1, a2⟩ := a
  obtain ⟨b1, b2⟩ := b
  obtain ⟨d1, d2⟩ := d
  unfold rcastC minI
  rw [w64_id (x := c.h - ite ..) (by split <;> omega), w64_id (x := c.h - t.low) (by omega), w64_id (x := c.h * t.x) (by omega), w64_id (x := c.h * t.y) (by omega), w64_id (x := c.h * t.r) (by omega)]
  congr 1
  omega
theorem lowB_eq (c : Cl) (t : Tr) : isB c t = !lowB c t := by unfold isB lowB; rw [Bool.eq_iff_iff]; simp
/-- The places along a light's way, where nothing runs over. -/
theorem atB_eq {c : Cl} {t : Tr} (hc : ClOk c) (ht : TrOk t) {p : Int × Int} (hp : BdP 100000 p) {n : Int} (hn : 0 ≤ n ∧ n ≤ 200) : atB (castC c t) p n = atZ (castC c t) p n ∧ BdP 100000000 (atZ (castC c t) p n) := by
  rw [castC_eq hc ht]
  obtain ⟨⟨cx1, cx2⟩, ⟨cy1, cy2⟩, ⟨h1, h2⟩, _, _, _⟩ := hc
  obtain ⟨⟨p1, p2⟩, p3, p4⟩ := hp
  have a := mulbd' (x := c.h) (y := c.x) (a := 200) (b := 100000) (c := 20000000) ⟨by omega, by omega⟩ ⟨cx1, cx2⟩ (by decide)
  have b := mulbd' (x := c.h) (y := c.y) (a := 200) (b := 100000) (c := 20000000) ⟨by omega, by omega⟩ ⟨cy1, cy2⟩ (by decide)
  have d := mulbd' (x := n) (y := p.1 - c.x) (a := 200) (b := 200000) (c := 40000000) ⟨by omega, by omega⟩ ⟨by omega, by omega⟩ (by decide)
  have e := mulbd' (x := n) (y := p.2 - c.y) (a := 200) (b := 200000) (c := 40000000) ⟨by omega, by omega⟩ ⟨by omega, by omega⟩ (by decide)
  obtain ⟨a1, a2⟩ := a
  obtain ⟨b1, b2⟩ := b
  obtain ⟨d1, d2⟩ := d
  obtain ⟨e1, e2⟩ := e
  unfold atB atZ
  simp only
  rw [w64_id (x := p.1 - c.x) (by omega), w64_id (x := p.2 - c.y) (by omega), w64_id (x := n * (p.1 - c.x)) (by omega), w64_id (x := n * (p.2 - c.y)) (by omega), w64_id (x := c.h * c.x) (by omega), w64_id (x := c.h * c.y) (by omega), w64_id (by omega), w64_id (by omega)]
  exact ⟨rfl, ⟨by simp only; omega, by simp only; omega⟩, by simp only; omega, by simp only; omega⟩
theorem ns_ok {c : Cl} {t : Tr} (hc : ClOk c) (ht : TrOk t) (h : lowB c t = false) : (0 ≤ (castC c t).n0 ∧ (castC c t).n0 ≤ 200) ∧ (0 ≤ (castC c t).n1 ∧ (castC c t).n1 ≤ 200) ∧ (castC c t).n0 ≤ (castC c t).n1 := by
  rw [castC_eq hc ht]
  obtain ⟨⟨_, _⟩, ⟨_, _⟩, ⟨h1, h2⟩, _, _, _⟩ := hc
  obtain ⟨⟨x1, x2⟩, ⟨y1, y2⟩, ⟨r1, r2⟩, ⟨l1, l2⟩, g1⟩ := ht
  unfold lowB at h
  have h := of_decide_eq_false h
  simp only
  omega
theorem mid_ok {c : Cl} {t : Tr} (hc : ClOk c) (ht : TrOk t) : BdP 100000000 ((castC c t).mx, (castC c t).my) ∧ Bd 100000000 (castC c t).r := by
  rw [castC_eq hc ht]
  obtain ⟨⟨_, _⟩, ⟨_, _⟩, ⟨h1, h2⟩, _, _, _⟩ := hc
  obtain ⟨⟨x1, x2⟩, ⟨y1, y2⟩, ⟨r1, r2⟩, ⟨l1, l2⟩, g1⟩ := ht
  have a := mulbd' (x := c.h) (y := t.x) (a := 200) (b := 100000) (c := 20000000) ⟨by omega, by omega⟩ ⟨x1, x2⟩ (by decide)
  have b := mulbd' (x := c.h) (y := t.y) (a := 200) (b := 100000) (c := 20000000) ⟨by omega, by omega⟩ ⟨y1, y2⟩ (by decide)
  have d := mulbd' (x := c.h) (y := t.r) (a := 200) (b := 20000) (c := 4000000) ⟨by omega, by omega⟩ ⟨by omega, by omega⟩ (by decide)
  obtain ⟨a1, a2⟩ := a
  obtain ⟨b1, b2⟩ := b
  obtain ⟨d1, d2⟩ := d
  exact ⟨⟨⟨by simp only; omega, by simp only; omega⟩, by simp only; omega, by simp only; omega⟩, by simp only; omega, by simp only; omega⟩
/-- The box of a patch. -/
abbrev box1 (p : Pa) : Box := ⟨p.x0, p.y0, p.x1, p.y1⟩
theorem eight_ok {c : Cl} {t : Tr} {p : Pa} (hc : ClOk c) (ht : TrOk t) (hp : PaOk p) (h : lowB c t = false) : eightB (castC c t) p = eight (castC c t) (box1 p) ∧ ∀ q ∈ eightB (castC c t) p, BdP 100000000 q := by
  obtain ⟨n0, n1, _⟩ := ns_ok hc ht h
  obtain ⟨⟨x0, y0⟩, x1, y1⟩ := hp
  have e : eightB (castC c t) p = eight (castC c t) (box1 p) := by
    unfold eightB eight cornersZ
    simp only [List.flatMap_cons, List.flatMap_nil, List.cons_append, List.nil_append]
    rw [(atB_eq hc ht (p := (p.x0, p.y0)) ⟨x0, y0⟩ n0).1, (atB_eq hc ht (p := (p.x0, p.y0)) ⟨x0, y0⟩ n1).1, (atB_eq hc ht (p := (p.x1, p.y0)) ⟨x1, y0⟩ n0).1, (atB_eq hc ht (p := (p.x1, p.y0)) ⟨x1, y0⟩ n1).1,
      (atB_eq hc ht (p := (p.x1, p.y1)) ⟨x1, y1⟩ n0).1, (atB_eq hc ht (p := (p.x1, p.y1)) ⟨x1, y1⟩ n1).1, (atB_eq hc ht (p := (p.x0, p.y1)) ⟨x0, y1⟩ n0).1, (atB_eq hc ht (p := (p.x0, p.y1)) ⟨x0, y1⟩ n1).1]
  refine ⟨e, ?_⟩
  rw [e]
  unfold eight cornersZ
  simp only [List.flatMap_cons, List.flatMap_nil, List.cons_append, List.nil_append, List.forall_mem_cons]
  exact ⟨(atB_eq hc ht (p := (p.x0, p.y0)) ⟨x0, y0⟩ n0).2, (atB_eq hc ht (p := (p.x0, p.y0)) ⟨x0, y0⟩ n1).2, (atB_eq hc ht (p := (p.x1, p.y0)) ⟨x1, y0⟩ n0).2, (atB_eq hc ht (p := (p.x1, p.y0)) ⟨x1, y0⟩ n1).2,
    (atB_eq hc ht (p := (p.x1, p.y1)) ⟨x1, y1⟩ n0).2, (atB_eq hc ht (p := (p.x1, p.y1)) ⟨x1, y1⟩ n1).2, (atB_eq hc ht (p := (p.x0, p.y1)) ⟨x0, y1⟩ n0).2, (atB_eq hc ht (p := (p.x0, p.y1)) ⟨x0, y1⟩ n1).2, fun x hx => by cases hx⟩

/-- A tree keeps a lamp's light from a point. -/
def shadT (c : Cl) (t : Tr) (p : Int × Int) : Bool := !lowB c t && nearZ (atZ (castC c t) p (castC c t).n0) (atZ (castC c t) p (castC c t).n1) ((castC c t).mx, (castC c t).my) (castC c t).r
theorem has_eq {c : Cl} {t : Tr} (hc : ClOk c) (ht : TrOk t) {p : Int × Int} (hp : BdP 100000 p) : hasB (castC c t) (lowB c t) p = shadT c t p := by
  unfold hasB shadT
  cases h : lowB c t with
  | true => rfl
  | false =>
    obtain ⟨n0, n1, _⟩ := ns_ok hc ht h
    obtain ⟨m1, m2⟩ := mid_ok hc ht
    rw [(atB_eq hc ht hp n0).1, (atB_eq hc ht hp n1).1, nearB_eq (atB_eq hc ht hp n0).2 (atB_eq hc ht hp n1).2 m1 m2]
theorem shades_eq {c : Cl} {t : Tr} (hc : ClOk c) (ht : TrOk t) {p : Int × Int} (hp : BdP 100000 p) : shadesB c t p = shadT c t p := by
  rw [← has_eq hc ht hp]
  unfold shadesB hasB
  rw [rcastC_eq hc ht, lowB_eq]
/-- A tree's shadow meets a patch. -/
def touT (c : Cl) (t : Tr) (p : Pa) : Bool := !lowB c t && touchRB (eight (castC c t) (box1 p)) ((castC c t).mx, (castC c t).my) (castC c t).r
theorem tou_fun {c : Cl} {t : Tr} {p : Pa} (hc : ClOk c) (ht : TrOk t) (hp : PaOk p) : Fun Tryz.prog 57 [castA (castC c t) (lowB c t), paA p] (B (touT c t p)) := by
  obtain ⟨m1, m2⟩ := mid_ok hc ht
  refine (touches_fun' (castC c t) (lowB c t) p (fun h => (eight_ok hc ht hp h).2) m1 m2).as (congrArg B ?_)
  unfold touT
  cases h : lowB c t with
  | true => rfl
  | false => rw [(eight_ok hc ht hp h).1]
theorem rtou_fun {c : Cl} {t : Tr} {p : Pa} (hc : ClOk c) (ht : TrOk t) (hp : PaOk p) : Fun Tryz.prog 60 [.agg (clC c), .agg (trC t), paA p] (B (touT c t p)) := by
  obtain ⟨m1, m2⟩ := mid_ok hc ht
  have e := rcastC_eq hc ht
  refine (rtouches_fun' c t p (fun h => ?_) (by rw [e]; exact m1) (by rw [e]; exact m2)).as (congrArg B ?_)
  · rw [lowB_eq] at h
    rw [e]; exact (eight_ok hc ht hp (by simpa using h)).2
  · unfold touT
    rw [e, lowB_eq]
    cases h : lowB c t with
    | true => rfl
    | false => rw [(eight_ok hc ht hp h).1]
end Go.Proofs.Am

/- Shaded and Shade, the program's and the reference's. -/
namespace Go.Proofs.Am
open Go Go.Proofs.Geo
set_option maxRecDepth 100000

def colOf (s : Sc) (i : Int) : Cl := s.cols.getD i.toNat default
def shadedS (s : Sc) (i x y : Int) : Int × Int := if errS s i s.cols.length (wildB [x, y]) == 0 then (idx (fun t => shadT (colOf s i) t (x, y)) s.trees, 0) else (0, errS s i s.cols.length (wildB [x, y]))
theorem ScOk.col {s : Sc} (h : ScOk s) {i : Int} (h0 : 0 ≤ i) (h1 : i < s.cols.length) : ClOk (colOf s i) := h.cl i.toNat (by omega)
theorem idx_congr {α : Type} {p q : α → Bool} {l : List α} (h : ∀ x ∈ l, p x = q x) : idx p l = idx q l := by
  unfold idx
  have : l.findIdx? p = l.findIdx? q := by
    induction l with
    | nil => rfl
    | cons a l ih => rw [List.findIdx?_cons, List.findIdx?_cons, h a (by simp), ih fun x hx => h x (by simp [hx])]
  rw [this]
theorem mem_tree {s : Sc} (h : ScOk s) {t : Tr} (ht : t ∈ s.trees) : TrOk t := by
  obtain ⟨i, hi, rfl⟩ := List.mem_iff_getElem.1 ht
  have := h.tr i hi
  rwa [List.getD_eq_getElem?_getD, List.getElem?_eq_getElem hi] at this

theorem Shaded_fun (s : Sc) (hs : s.ok) (i x y : Int) : Fun Tryz.prog 15 [scA s, I i, I x, I y] (PI (shadedS s i x y)) := by
  refine Fun.of_run cP rfl ?_
  refine Rn.call 1000 rfl _ (checked1_fun s hs i s.cols.length hs.2.2.2.1) ?_
  refine Rn.ite (b := !(idxE s i s.cols.length == 0)) 1000 rfl (fun h => ?_) (fun h => ?_)
  · rw [Bool.not_eq_true'] at h
    exact Rn.ret 1000 rfl rfl (by unfold shadedS; rw [errS_1 h, h]; rfl)
  rw [Bool.not_eq_false'] at h
  refine Rn.call 1000 rfl _ (wild_fun [x, y] (by simp [small])) ?_
  refine Rn.ite (b := wildB [x, y]) 1000 rfl (fun h1 => ?_) (fun h1 => ?_)
  · exact Rn.ret 1000 rfl rfl (by unfold shadedS errS; rw [h, h1]; rfl)
  obtain ⟨g, i0, i1⟩ := idxE_zero (eq_of_beq h)
  obtain ⟨hx, hy⟩ := bd_xy h1
  have ok := good_ok g
  obtain ⟨k, rfl⟩ : ∃ k : Nat, i = k := ⟨i.toNat, by omega⟩
  have hk : k < s.cols.length := by omega
  have key := index46c4x [rdsA s.roads, trsA s.trees, ftsA s.fronts, clsA s.cols] [I (k : Int)] [I x] [I y] s.trees hs.2.1 (fun t => hasB (castC (s.cols.getD k default) t) (lowB (s.cols.getD k default) t) (x, y)) fun t _ => shades_in_fun s k hk x y t
  refine Rn.call 1000 rfl _ key ?_
  refine Rn.ret 1000 rfl rfl ?_
  unfold shadedS errS
  rw [h, h1]
  rw [idx_congr (q := fun t => shadT (colOf s k) t (x, y)) fun t ht => has_eq (ok.cl k hk) (mem_tree ok ht) (p := (x, y)) ⟨hx, hy⟩]
  rfl

theorem rShaded_fun (s : Sc) (hs : s.ok) (i x y : Int) : Fun Tryz.prog 16 [scA s, I i, I x, I y] (PI (shadedS s i x y)) := by
  refine Fun.of_run cP rfl ?_
  refine Rn.call 1000 rfl _ (indexed_fun s hs i s.cols.length) ?_
  refine Rn.ite (b := idxE s i s.cols.length == 0) 1000 rfl (fun h => ?_) (fun h => ?_)
  rotate_left
  · refine Rn.ite (b := !(idxE s i s.cols.length == 0)) 1000 rfl (fun h2 => ?_) (fun h2 => ?_)
    · exact Rn.ret 1000 rfl rfl (by unfold shadedS; rw [errS_1 h, h]; rfl)
    · rw [h] at h2; cases h2
  refine Rn.call 1000 rfl _ (placed_fun [x, y] (by simp [small])) ?_
  refine Rn.ite (b := !!wildB [x, y]) 1000 rfl (fun h1 => ?_) (fun h1 => ?_)
  · rw [Bool.not_not] at h1
    exact Rn.ret 1000 rfl rfl (by unfold shadedS errS; rw [h, h1]; rfl)
  rw [Bool.not_not] at h1
  refine Rn.ite (b := !(idxE s i s.cols.length == 0)) 1000 rfl (fun h2 => ?_) (fun h2 => ?_)
  · rw [h] at h2; cases h2
  clear h2
  obtain ⟨g, i0, i1⟩ := idxE_zero (eq_of_beq h)
  obtain ⟨hx, hy⟩ := bd_xy h1
  have ok := good_ok g
  obtain ⟨k, rfl⟩ : ∃ k : Nat, i = k := ⟨i.toNat, by omega⟩
  have hk : k < s.cols.length := by omega
  have hlt : s.trees.length ≤ 9223372036854775807 := hs.2.1
  have res : shadedS s k x y = (idx (fun t => shadT (s.cols.getD k default) t (x, y)) s.trees, 0) := by unfold shadedS errS; rw [h, h1]; rfl
  rw [res]
  have in1 : inB (k : Int) s.cols.length = true := by simp only [inB, Bool.and_eq_true, decide_eq_true_eq]; omega
  refine Rn.stop 1000 rfl ?_
  refine Rn.loop2 (fun _ => []) (fun j : Nat => [(1, I (k : Int)), (2, I x), (3, I y), (4, .ptr 0 0), (11, I (j : Int))]) (fun _ => [(0, .flat [rdsA s.roads, trsA s.trees, ftsA s.fronts, clsA s.cols] 27)]) 1
    (fun j => j ≤ s.trees.length ∧ ∀ q, q < j → shadT (s.cols.getD k default) (s.trees.getD q default) (x, y) = false) (fun j => s.trees.length - j) 0 ⟨Nat.zero_le _, fun j hj => absurd hj (by omega)⟩
    ⟨⟨rfl, rfl, rfl, rfl, rfl, .cons rfl (.refl rfl) (.cons rfl (.refl rfl) (.cons rfl (.refl rfl) (.cons rfl (.refl rfl) (.cons rfl (.int _ _) .nil)))), rfl⟩, trivial, .cons rfl (.flat' rfl rfl) .nil⟩ ?_
  rintro j ⟨hj, hall⟩ ih
  refine Rn.ite (b := decide ((j : Int) < (s.trees.length : Int))) 1000 rfl (fun hd => ?_) (fun hd => ?_)
  · have hd : j < s.trees.length := by have := of_decide_eq_true hd; omega
    have in2 : inB (j : Int) s.trees.length = true := by simp only [inB, Bool.and_eq_true, decide_eq_true_eq]; omega
    refine Rn.asr 1000 rfl in1 ?_
    refine Rn.asr 1000 rfl in2 ?_
    have key := (shades_fun (s.cols.getD k default) (s.trees.getD j default) (x, y)).as (congrArg B (shades_eq (ok.cl k hk) (ok.tr j hd) (p := (x, y)) ⟨hx, hy⟩).symm)
    refine Rn.call 1000 rfl _ key ?_
    refine Rn.chk 1000 rfl (by kernel_rfl) ?_
    refine Rn.ite (b := shadT (s.cols.getD k default) (s.trees.getD j default) (x, y)) 1000 rfl (fun hn => ?_) (fun hn => ?_)
    · exact Rn.ret 1000 rfl rfl (by rw [idx_hit (d := default) hd hall hn])
    · refine Rn.stop 1000 rfl ?_
      refine Rn.weaken trivial ?_ (ih (j + 1) (by omega) ⟨by omega, fun q hq => ?_⟩)
      · exact ⟨⟨rfl, rfl, rfl, rfl, rfl, .cons rfl (.refl rfl) (.cons rfl (.refl rfl) (.cons rfl (.refl rfl) (.cons rfl (.refl rfl) (.cons rfl (.eq rfl (congrArg I (w64_nat hd hlt))) .nil)))), rfl⟩, trivial, .cons rfl (.flat' rfl rfl) .nil⟩
      · rcases Nat.lt_or_ge q j with hq' | hq'
        · exact hall q hq'
        · have : q = j := by omega
          subst this; exact hn
  · have hd : ¬ (j : Int) < (s.trees.length : Int) := of_decide_eq_false hd
    have : j = s.trees.length := by omega
    subst this
    exact Rn.ret 1000 rfl rfl (by rw [idx_none (d := default) hall]; rfl)
end Go.Proofs.Am

/- Shade, the program's and the reference's. -/
namespace Go.Proofs.Am
open Go Go.Proofs.Geo
set_option maxRecDepth 100000

/-- The corners of a patch. -/
def l4 (p : Pa) : List (Int × Int) := [(p.x0, p.y0), (p.x1, p.y0), (p.x1, p.y1), (p.x0, p.y1)]
def darkT (c : Cl) (t : Tr) (p : Pa) : Bool := (l4 p).all (shadT c t)
/-- How dark a patch is for the first n trees. -/
def shadeN (c : Cl) (ts : List Tr) (p : Pa) : Nat → Int
  | 0 => 0
  | n + 1 => if darkT c (ts.getD n default) p then 2 else if touT c (ts.getD n default) p then mx2 (shadeN c ts p n) 1 else shadeN c ts p n
def shadeZ (c : Cl) (ts : List Tr) (p : Pa) : Int := shadeN c ts p ts.length
def shadeS (s : Sc) (i : Int) (p : Pa) : Int × Int := if errS s i s.cols.length (roughB p) == 0 then (shadeZ (colOf s i) s.trees p, 0) else (0, errS s i s.cols.length (roughB p))
theorem l4_bd {p : Pa} (hp : PaOk p) : ∀ q ∈ l4 p, BdP 100000 q := by
  obtain ⟨⟨x0, y0⟩, x1, y1⟩ := hp
  unfold l4
  simp only [List.forall_mem_cons]
  exact ⟨⟨x0, y0⟩, ⟨x1, y0⟩, ⟨x1, y1⟩, ⟨x0, y1⟩, fun x hx => by cases hx⟩

theorem all_not {α : Type} (l : List α) (p q : α → Bool) (h : ∀ x ∈ l, q x = p x) : (!l.all p) = l.any fun x => !q x := by
  rw [Bool.eq_iff_iff]
  simp only [Bool.not_eq_true', List.any_eq_true]
  rw [List.all_eq_false]
  constructor
  · rintro ⟨x, hx, hp⟩; exact ⟨x, hx, by rw [h x hx]; simpa using hp⟩
  · rintro ⟨x, hx, hp⟩; exact ⟨x, hx, by rw [← h x hx]; simpa using hp⟩
theorem Shade_fun (s : Sc) (hs : s.ok) (i : Int) (p : Pa) : Fun Tryz.prog 17 [scA s, I i, paA p] (PI (shadeS s i p)) := by
  refine Fun.of_run cP rfl ?_
  refine Rn.call 1000 rfl _ (checked1_fun s hs i s.cols.length hs.2.2.2.1) ?_
  refine Rn.ite (b := !(idxE s i s.cols.length == 0)) 1000 rfl (fun h => ?_) (fun h => ?_)
  · rw [Bool.not_eq_true'] at h
    exact Rn.ret 1000 rfl rfl (by unfold shadeS; rw [errS_1 h, h]; rfl)
  rw [Bool.not_eq_false'] at h
  refine Rn.call 1000 rfl _ (rough_fun p) ?_
  refine Rn.ite (b := roughB p) 1000 rfl (fun h1 => ?_) (fun h1 => ?_)
  · exact Rn.ret 1000 rfl rfl (by unfold shadeS errS; rw [h, h1]; rfl)
  obtain ⟨g, i0, i1⟩ := idxE_zero (eq_of_beq h)
  obtain ⟨hp, _⟩ := rough_ok h1
  have ok := good_ok g
  obtain ⟨k, rfl⟩ : ∃ k : Nat, i = k := ⟨i.toNat, by omega⟩
  have hk : k < s.cols.length := by omega
  have hlt : s.trees.length ≤ 9223372036854775807 := hs.2.1
  have res : shadeS s k p = (shadeZ (s.cols.getD k default) s.trees p, 0) := by unfold shadeS errS; rw [h, h1]; rfl
  rw [res]
  have in1 : inB (k : Int) s.cols.length = true := by simp only [inB, Bool.and_eq_true, decide_eq_true_eq]; omega
  refine Rn.stop 1000 rfl ?_
  refine Rn.loop2 (fun _ => []) (fun j : Nat => [(1, I (k : Int)), (3, .ptr 0 0), (5, .ptr 1 0), (9, I (shadeN (s.cols.getD k default) s.trees p j)), (29, trsA s.trees), (30, I s.trees.length), (31, I (j : Int))])
    (fun _ => [(0, .flat [rdsA s.roads, trsA s.trees, ftsA s.fronts, clsA s.cols] 27), (1, .flat [I p.x0, I p.y0, I p.x1, I p.y1] 29)]) 2
    (fun j => j ≤ s.trees.length) (fun j => s.trees.length - j) 0 (Nat.zero_le _)
    ⟨⟨rfl, rfl, rfl, rfl, rfl, .cons rfl (.refl rfl) (.cons rfl (.refl rfl) (.cons rfl (.refl rfl) (.cons rfl (.int _ _) (.cons rfl (.refl rfl) (.cons rfl (.refl rfl) (.cons rfl (.int _ _) .nil)))))), rfl⟩, trivial, .cons rfl (.flat' rfl rfl) (.cons rfl (.flat' rfl rfl) .nil)⟩ ?_
  rintro j hj ih
  refine Rn.ite (b := decide ((j : Int) < (s.trees.length : Int))) 1000 rfl (fun hd => ?_) (fun hd => ?_)
  · have hd : j < s.trees.length := by have := of_decide_eq_true hd; omega
    have in2 : inB (j : Int) s.trees.length = true := by simp only [inB, Bool.and_eq_true, decide_eq_true_eq]; omega
    have hc := ok.cl k hk
    have ht := ok.tr j hd
    obtain ⟨c, hce⟩ : ∃ c, c = s.cols.getD k default := ⟨_, rfl⟩
    obtain ⟨t, hte⟩ : ∃ t, t = s.trees.getD j default := ⟨_, rfl⟩
    rw [← hce] at hc ih ⊢
    rw [← hte] at ht
    have kcast : Fun Tryz.prog 48 [.agg (clC (s.cols.getD ((k : Int)).toNat default)), .agg (trC (s.trees.getD ((j : Int)).toNat default))] (castA (castC c t) (lowB c t)) := by
      rw [Int.toNat_natCast, Int.toNat_natCast, ← hce, ← hte]; exact cast_fun c t
    have ktou := tou_fun hc ht hp
    obtain ⟨dk, hdk⟩ : ∃ b, b = darkT c t p := ⟨_, rfl⟩
    obtain ⟨tk, htk⟩ : ∃ b, b = touT c t p := ⟨_, rfl⟩
    have kdark : Fun Tryz.prog 55 [rowOf 2 ptC (0, 0) (l4 p), .fn (.func 56) [.pat (castL (castC c t) (lowB c t)) 0]] (B (!dk)) := by
      refine (contains55c1x (castL (castC c t) (lowB c t)) (l4 p) (by simp [l4, small]) (fun x => !hasB (castC c t) (lowB c t) x) fun x _ => not_has_fun _ _ x.1 x.2).as (congrArg B ?_)
      rw [hdk]
      unfold darkT
      exact all_not _ _ _ fun q hq => has_eq hc ht (l4_bd hp q hq)
    have stp : shadeN c s.trees p (j + 1) = if dk then 2 else if tk then mx2 (shadeN c s.trees p j) 1 else shadeN c s.trees p j := by
      rw [hdk, htk, hte]; rfl
    rw [← htk] at ktou
    clear hdk htk
    refine Rn.asr 1000 rfl in2 ?_
    refine Rn.asr 1000 rfl in1 ?_
    refine Rn.call 1000 rfl _ kcast ?_
    refine Rn.chk 1000 rfl (by kernel_rfl) ?_
    refine Rn.call 1000 rfl _ (corners_fun p) ?_
    refine Rn.call 1000 rfl (B (!dk)) ?_ ?_
    · refine Fun.args (l' := [rowOf 2 ptC (0, 0) (l4 p), .fn (.func 56) [.pat (castL (castC c t) (lowB c t)) 0]]) ⟨?_, ArgTo.refl _, trivial⟩ kdark
      refine rsl_to fun i hi => ?_
      match i, hi with
      | 0, _ => rfl
      | 1, _ => rfl
      | 2, _ => rfl
      | 3, _ => rfl
    refine Rn.ite (b := !!dk) 1000 rfl (fun hk1 => ?_) (fun hk1 => ?_)
    · rw [Bool.not_not] at hk1
      refine Rn.stop 1000 rfl ?_
      refine Rn.weaken trivial ?_ (ih (j + 1) (by omega) hd)
      exact ⟨⟨rfl, rfl, rfl, rfl, rfl, .cons rfl (.refl rfl) (.cons rfl (.refl rfl) (.cons rfl (.refl rfl) (.cons rfl (by rw [stp, hk1]; exact .int _ 2) (.cons rfl (.refl rfl) (.cons rfl (.refl rfl) (.cons rfl (.eq rfl (congrArg I (w64_nat hd hlt))) .nil)))))), rfl⟩, trivial, .cons rfl (.flat' rfl rfl) (.cons rfl (.flat' rfl rfl) .nil)⟩
    rw [Bool.not_not] at hk1
    refine Rn.call 1000 rfl _ ktou ?_
    refine Rn.ite (b := tk) 1000 rfl (fun hk2 => ?_) (fun hk2 => ?_)
    · refine Rn.stop 1000 rfl ?_
      refine Rn.weaken trivial ?_ (ih (j + 1) (by omega) hd)
      exact ⟨⟨rfl, rfl, rfl, rfl, rfl, .cons rfl (.refl rfl) (.cons rfl (.refl rfl) (.cons rfl (.refl rfl) (.cons rfl (.eq rfl (congrArg I (by rw [stp, hk1, hk2]; rfl))) (.cons rfl (.refl rfl) (.cons rfl (.refl rfl) (.cons rfl (.eq rfl (congrArg I (w64_nat hd hlt))) .nil)))))), rfl⟩, trivial, .cons rfl (.flat' rfl rfl) (.cons rfl (.flat' rfl rfl) .nil)⟩
    · refine Rn.stop 1000 rfl ?_
      refine Rn.weaken trivial ?_ (ih (j + 1) (by omega) hd)
      exact ⟨⟨rfl, rfl, rfl, rfl, rfl, .cons rfl (.refl rfl) (.cons rfl (.refl rfl) (.cons rfl (.refl rfl) (.cons rfl (.eq rfl (congrArg I (by rw [stp, hk1, hk2]; rfl))) (.cons rfl (.refl rfl) (.cons rfl (.refl rfl) (.cons rfl (.eq rfl (congrArg I (w64_nat hd hlt))) .nil)))))), rfl⟩, trivial, .cons rfl (.flat' rfl rfl) (.cons rfl (.flat' rfl rfl) .nil)⟩
  · have hd : ¬ (j : Int) < (s.trees.length : Int) := of_decide_eq_false hd
    have : j = s.trees.length := by omega
    subst this
    exact Rn.ret 1000 rfl rfl rfl
end Go.Proofs.Am

/- Shade, the reference's. -/
namespace Go.Proofs.Am
open Go Go.Proofs.Geo
set_option maxRecDepth 100000

theorem shadeN_01 (c : Cl) (ts : List Tr) (p : Pa) : ∀ n, (∀ j, j < n → darkT c (ts.getD j default) p = false) → shadeN c ts p n = 0 ∨ shadeN c ts p n = 1
  | 0, _ => .inl rfl
  | n + 1, h => by
    have ih := shadeN_01 c ts p n fun j hj => h j (by omega)
    rw [shadeN, h n (by omega)]
    simp only [Bool.false_eq_true, if_false]
    split
    · right; rw [mx2_eq]; omega
    · exact ih
theorem shadeN_2 (c : Cl) (ts : List Tr) (p : Pa) {j : Nat} (hj : darkT c (ts.getD j default) p = true) : ∀ n, j < n → shadeN c ts p n = 2
  | 0, h => absurd h (by omega)
  | n + 1, h => by
    rw [shadeN]
    split
    · rfl
    · have : j ≠ n := fun e => by subst e; rename_i h1; exact h1 hj
      rw [shadeN_2 c ts p hj n (by omega)]
      split
      · rw [mx2_eq]; omega
      · rfl

theorem rShade_fun (s : Sc) (hs : s.ok) (i : Int) (p : Pa) : Fun Tryz.prog 18 [scA s, I i, paA p] (PI (shadeS s i p)) := by
  refine Fun.of_run cP rfl ?_
  refine Rn.call 1000 rfl _ (indexed_fun s hs i s.cols.length) ?_
  refine Rn.ite (b := idxE s i s.cols.length == 0) 1000 rfl (fun h => ?_) (fun h => ?_)
  rotate_left
  · refine Rn.ite (b := !(idxE s i s.cols.length == 0)) 1000 rfl (fun h2 => ?_) (fun h2 => ?_)
    · exact Rn.ret 1000 rfl rfl (by unfold shadeS; rw [errS_1 h, h]; rfl)
    · rw [h] at h2; cases h2
  refine Rn.call 1000 rfl _ (patch_fun p) ?_
  refine Rn.ite (b := !!roughB p) 1000 rfl (fun h1 => ?_) (fun h1 => ?_)
  · rw [Bool.not_not] at h1
    exact Rn.ret 1000 rfl rfl (by unfold shadeS errS; rw [h, h1]; rfl)
  rw [Bool.not_not] at h1
  refine Rn.ite (b := !(idxE s i s.cols.length == 0)) 1000 rfl (fun h2 => ?_) (fun h2 => ?_)
  · rw [h] at h2; cases h2
  clear h2
  obtain ⟨g, i0, i1⟩ := idxE_zero (eq_of_beq h)
  obtain ⟨hp, _⟩ := rough_ok h1
  have ok := good_ok g
  obtain ⟨k, rfl⟩ : ∃ k : Nat, i = k := ⟨i.toNat, by omega⟩
  have hk : k < s.cols.length := by omega
  have hlt : s.trees.length ≤ 9223372036854775807 := hs.2.1
  have res : shadeS s k p = (shadeZ (s.cols.getD k default) s.trees p, 0) := by unfold shadeS errS; rw [h, h1]; rfl
  rw [res]
  have in1 : inB (k : Int) s.cols.length = true := by simp only [inB, Bool.and_eq_true, decide_eq_true_eq]; omega
  have hc := ok.cl k hk
  refine Rn.asr 1000 rfl in1 ?_
  refine Rn.call 1000 rfl _ (rcorners_fun p) ?_
  refine Rn.chk 1000 rfl (by kernel_rfl) ?_
  refine Rn.stop 1000 rfl ?_
  obtain ⟨c, hce⟩ : ∃ c, c = s.cols.getD k default := ⟨_, rfl⟩
  rw [← hce] at hc ⊢
  refine Rn.loop2 (fun _ => []) (fun j : Nat => [(3, .ptr 0 0), (5, .ptr 1 0), (9, .ptr 9 0), (10, .ptr 11 0), (11, I (shadeN c s.trees p j)), (12, I (j : Int))])
    (fun _ => [(0, .flat [rdsA s.roads, trsA s.trees, ftsA s.fronts, clsA s.cols] 27), (1, .flat [I p.x0, I p.y0, I p.x1, I p.y1] 29), (9, .flat (clC c) 100), (11, .flat [I p.x0, I p.y0, I p.x1, I p.y0, I p.x1, I p.y1, I p.x0, I p.y1] 112)]) 12
    (fun j => j ≤ s.trees.length ∧ ∀ q, q < j → darkT c (s.trees.getD q default) p = false) (fun j => s.trees.length - j) 0 ⟨Nat.zero_le _, fun j hj => absurd hj (by omega)⟩
    ⟨⟨rfl, rfl, rfl, rfl, rfl, .cons rfl (.refl rfl) (.cons rfl (.refl rfl) (.cons rfl (.refl rfl) (.cons rfl (.refl rfl) (.cons rfl (.int _ _) (.cons rfl (.int _ _) .nil))))), rfl⟩, trivial,
      .cons rfl (.flat' rfl rfl) (.cons rfl (.flat' rfl rfl) (.cons rfl (by rw [hce]; exact .flat' rfl rfl) (.cons rfl (.flat' rfl rfl) .nil)))⟩ ?_
  rintro j ⟨hj, hall⟩ ih
  refine Rn.ite (b := decide ((j : Int) < (s.trees.length : Int))) 1000 rfl (fun hd => ?_) (fun hd => ?_)
  · have hd : j < s.trees.length := by have := of_decide_eq_true hd; omega
    have in2 : inB (j : Int) s.trees.length = true := by simp only [inB, Bool.and_eq_true, decide_eq_true_eq]; omega
    have ht := ok.tr j hd
    have shk : ∀ q, q ∈ l4 p → Fun Tryz.prog 52 [.agg (clC c), .agg (trC (s.trees.getD ((j : Int)).toNat default)), V q.1 q.2] (B (shadT c (s.trees.getD j default) q)) := fun q hq => by
      rw [Int.toNat_natCast]
      exact (shades_fun c (s.trees.getD j default) q).as (congrArg B (shades_eq hc ht (l4_bd hp q hq)).symm)
    obtain ⟨c1, f1⟩ : ∃ b, b = shadT c (s.trees.getD j default) (p.x0, p.y0) := ⟨_, rfl⟩
    obtain ⟨c2, f2⟩ : ∃ b, b = shadT c (s.trees.getD j default) (p.x1, p.y0) := ⟨_, rfl⟩
    obtain ⟨c3, f3⟩ : ∃ b, b = shadT c (s.trees.getD j default) (p.x1, p.y1) := ⟨_, rfl⟩
    obtain ⟨c4, f4⟩ : ∃ b, b = shadT c (s.trees.getD j default) (p.x0, p.y1) := ⟨_, rfl⟩
    have g1 := (shk (p.x0, p.y0) (by simp [l4])).as (r' := B c1) (congrArg B f1)
    have g2 := (shk (p.x1, p.y0) (by simp [l4])).as (r' := B c2) (congrArg B f2)
    have g3 := (shk (p.x1, p.y1) (by simp [l4])).as (r' := B c3) (congrArg B f3)
    have g4 := (shk (p.x0, p.y1) (by simp [l4])).as (r' := B c4) (congrArg B f4)
    have hA : darkT c (s.trees.getD j default) p = (c1 && (c2 && (c3 && c4))) := by
      subst f1; subst f2; subst f3; subst f4
      unfold darkT l4
      simp only [List.all_cons, List.all_nil, Bool.and_true]
    clear f1 f2 f3 f4 shk
    have done : (c1 && (c2 && (c3 && c4))) = true → shadeZ c s.trees p = 2 := fun hcc => shadeN_2 c s.trees p (j := j) (by rw [hA]; exact hcc) _ hd
    have tg : Fun Tryz.prog 60 [.agg (clC c), .agg (trC (s.trees.getD ((j : Int)).toNat default)), paA p] (B (touT c (s.trees.getD j default) p)) := by
      rw [Int.toNat_natCast]; exact rtou_fun hc ht hp
    obtain ⟨tb, htb⟩ : ∃ b, b = touT c (s.trees.getD j default) p := ⟨_, rfl⟩
    rw [← htb] at tg
    have h01 := shadeN_01 c s.trees p j hall
    have nxt : (c1 && (c2 && (c3 && c4))) = false → shadeN c s.trees p (j + 1) = (if tb then mx2 (shadeN c s.trees p j) 1 else shadeN c s.trees p j) ∧ (j + 1 ≤ s.trees.length ∧ ∀ q, q < j + 1 → darkT c (s.trees.getD q default) p = false) := fun hcc => by
      refine ⟨by rw [shadeN, hA, hcc, htb]; rfl, hd, fun q hq => ?_⟩
      rcases Nat.lt_or_ge q j with hq' | hq'
      · exact hall q hq'
      · have : q = j := by omega
        subst this; rw [hA]; exact hcc
    have nx1 : (c1 && (c2 && (c3 && c4))) = false → tb = true → shadeN c s.trees p (j + 1) = 1 := fun hcc ht => by
      rw [(nxt hcc).1, ht]; simp only [if_true]; rw [mx2_eq]; omega
    clear hA hall htb
    refine Rn.stop 1000 rfl ?_
    refine Rn.asr 1000 rfl in2 ?_
    refine Rn.call 1000 rfl _ g1 ?_
    refine Rn.chk 1000 rfl (by kernel_rfl) ?_
    refine Rn.stop 1000 rfl ?_
    refine Rn.ite (b := c1) 1000 rfl (fun d1 => ?_) (fun d1 => ?_)
    rotate_left
    · skip
      have cc : (c1 && (c2 && (c3 && c4))) = false := by rw [d1]; rfl
      obtain ⟨n1, n2⟩ := nxt cc
      repeat (first | refine Rn.stop 1000 rfl ?_ | refine Rn.chk 1000 rfl (by kernel_rfl) ?_)
      refine Rn.asr 1000 rfl in2 ?_
      refine Rn.call 1000 rfl _ tg ?_
      refine Rn.chk 1000 rfl (by kernel_rfl) ?_
      refine Rn.ite (b := tb) 1000 rfl (fun hs => ?_) (fun hs => ?_)
      · refine Rn.stop 1000 rfl ?_
        refine Rn.weaken trivial ?_ (ih (j + 1) (by omega) n2)
        exact ⟨⟨rfl, rfl, rfl, rfl, rfl, .cons rfl (.refl rfl) (.cons rfl (.refl rfl) (.cons rfl (.refl rfl) (.cons rfl (.refl rfl) (.cons rfl (by rw [nx1 cc hs]; exact .int _ 1) (.cons rfl (.eq rfl (congrArg I (w64_nat hd hlt))) .nil))))), rfl⟩, trivial,
          .cons rfl (.flat' rfl rfl) (.cons rfl (.flat' rfl rfl) (.cons rfl (.flat' rfl rfl) (.cons rfl (.flat' rfl rfl) .nil)))⟩
      · refine Rn.stop 1000 rfl ?_
        refine Rn.weaken trivial ?_ (ih (j + 1) (by omega) n2)
        exact ⟨⟨rfl, rfl, rfl, rfl, rfl, .cons rfl (.refl rfl) (.cons rfl (.refl rfl) (.cons rfl (.refl rfl) (.cons rfl (.refl rfl) (.cons rfl (.eq rfl (congrArg I (by rw [n1, hs]; rfl))) (.cons rfl (.eq rfl (congrArg I (w64_nat hd hlt))) .nil))))), rfl⟩, trivial,
          .cons rfl (.flat' rfl rfl) (.cons rfl (.flat' rfl rfl) (.cons rfl (.flat' rfl rfl) (.cons rfl (.flat' rfl rfl) .nil)))⟩
    refine Rn.asr 1000 rfl in2 ?_
    refine Rn.call 1000 rfl _ g2 ?_
    refine Rn.chk 1000 rfl (by kernel_rfl) ?_
    refine Rn.stop 1000 rfl ?_
    refine Rn.ite (b := c2) 1000 rfl (fun d2 => ?_) (fun d2 => ?_)
    rotate_left
    · skip
      have cc : (c1 && (c2 && (c3 && c4))) = false := by rw [d1, d2]; rfl
      obtain ⟨n1, n2⟩ := nxt cc
      repeat (first | refine Rn.stop 1000 rfl ?_ | refine Rn.chk 1000 rfl (by kernel_rfl) ?_)
      refine Rn.asr 1000 rfl in2 ?_
      refine Rn.call 1000 rfl _ tg ?_
      refine Rn.chk 1000 rfl (by kernel_rfl) ?_
      refine Rn.ite (b := tb) 1000 rfl (fun hs => ?_) (fun hs => ?_)
      · refine Rn.stop 1000 rfl ?_
        refine Rn.weaken trivial ?_ (ih (j + 1) (by omega) n2)
        exact ⟨⟨rfl, rfl, rfl, rfl, rfl, .cons rfl (.refl rfl) (.cons rfl (.refl rfl) (.cons rfl (.refl rfl) (.cons rfl (.refl rfl) (.cons rfl (by rw [nx1 cc hs]; exact .int _ 1) (.cons rfl (.eq rfl (congrArg I (w64_nat hd hlt))) .nil))))), rfl⟩, trivial,
          .cons rfl (.flat' rfl rfl) (.cons rfl (.flat' rfl rfl) (.cons rfl (.flat' rfl rfl) (.cons rfl (.flat' rfl rfl) .nil)))⟩
      · refine Rn.stop 1000 rfl ?_
        refine Rn.weaken trivial ?_ (ih (j + 1) (by omega) n2)
        exact ⟨⟨rfl, rfl, rfl, rfl, rfl, .cons rfl (.refl rfl) (.cons rfl (.refl rfl) (.cons rfl (.refl rfl) (.cons rfl (.refl rfl) (.cons rfl (.eq rfl (congrArg I (by rw [n1, hs]; rfl))) (.cons rfl (.eq rfl (congrArg I (w64_nat hd hlt))) .nil))))), rfl⟩, trivial,
          .cons rfl (.flat' rfl rfl) (.cons rfl (.flat' rfl rfl) (.cons rfl (.flat' rfl rfl) (.cons rfl (.flat' rfl rfl) .nil)))⟩
    refine Rn.asr 1000 rfl in2 ?_
    refine Rn.call 1000 rfl _ g3 ?_
    refine Rn.chk 1000 rfl (by kernel_rfl) ?_
    refine Rn.stop 1000 rfl ?_
    refine Rn.ite (b := c3) 1000 rfl (fun d3 => ?_) (fun d3 => ?_)
    rotate_left
    · skip
      have cc : (c1 && (c2 && (c3 && c4))) = false := by rw [d1, d2, d3]; rfl
      obtain ⟨n1, n2⟩ := nxt cc
      repeat (first | refine Rn.stop 1000 rfl ?_ | refine Rn.chk 1000 rfl (by kernel_rfl) ?_)
      refine Rn.asr 1000 rfl in2 ?_
      refine Rn.call 1000 rfl _ tg ?_
      refine Rn.chk 1000 rfl (by kernel_rfl) ?_
      refine Rn.ite (b := tb) 1000 rfl (fun hs => ?_) (fun hs => ?_)
      · refine Rn.stop 1000 rfl ?_
        refine Rn.weaken trivial ?_ (ih (j + 1) (by omega) n2)
        exact ⟨⟨rfl, rfl, rfl, rfl, rfl, .cons rfl (.refl rfl) (.cons rfl (.refl rfl) (.cons rfl (.refl rfl) (.cons rfl (.refl rfl) (.cons rfl (by rw [nx1 cc hs]; exact .int _ 1) (.cons rfl (.eq rfl (congrArg I (w64_nat hd hlt))) .nil))))), rfl⟩, trivial,
          .cons rfl (.flat' rfl rfl) (.cons rfl (.flat' rfl rfl) (.cons rfl (.flat' rfl rfl) (.cons rfl (.flat' rfl rfl) .nil)))⟩
      · refine Rn.stop 1000 rfl ?_
        refine Rn.weaken trivial ?_ (ih (j + 1) (by omega) n2)
        exact ⟨⟨rfl, rfl, rfl, rfl, rfl, .cons rfl (.refl rfl) (.cons rfl (.refl rfl) (.cons rfl (.refl rfl) (.cons rfl (.refl rfl) (.cons rfl (.eq rfl (congrArg I (by rw [n1, hs]; rfl))) (.cons rfl (.eq rfl (congrArg I (w64_nat hd hlt))) .nil))))), rfl⟩, trivial,
          .cons rfl (.flat' rfl rfl) (.cons rfl (.flat' rfl rfl) (.cons rfl (.flat' rfl rfl) (.cons rfl (.flat' rfl rfl) .nil)))⟩
    refine Rn.asr 1000 rfl in2 ?_
    refine Rn.call 1000 rfl _ g4 ?_
    refine Rn.chk 1000 rfl (by kernel_rfl) ?_
    refine Rn.stop 1000 rfl ?_
    refine Rn.ite (b := c4) 1000 rfl (fun d4 => ?_) (fun d4 => ?_)
    · exact Rn.ret 1000 rfl rfl (by rw [done (by rw [d1, d2, d3, d4]; rfl)]; rfl)
    have cc : (c1 && (c2 && (c3 && c4))) = false := by rw [d1, d2, d3, d4]; rfl
    obtain ⟨n1, n2⟩ := nxt cc
    repeat (first | refine Rn.stop 1000 rfl ?_ | refine Rn.chk 1000 rfl (by kernel_rfl) ?_)
    refine Rn.asr 1000 rfl in2 ?_
    refine Rn.call 1000 rfl _ tg ?_
    refine Rn.chk 1000 rfl (by kernel_rfl) ?_
    refine Rn.ite (b := tb) 1000 rfl (fun hs => ?_) (fun hs => ?_)
    · refine Rn.stop 1000 rfl ?_
      refine Rn.weaken trivial ?_ (ih (j + 1) (by omega) n2)
      exact ⟨⟨rfl, rfl, rfl, rfl, rfl, .cons rfl (.refl rfl) (.cons rfl (.refl rfl) (.cons rfl (.refl rfl) (.cons rfl (.refl rfl) (.cons rfl (by rw [nx1 cc hs]; exact .int _ 1) (.cons rfl (.eq rfl (congrArg I (w64_nat hd hlt))) .nil))))), rfl⟩, trivial,
        .cons rfl (.flat' rfl rfl) (.cons rfl (.flat' rfl rfl) (.cons rfl (.flat' rfl rfl) (.cons rfl (.flat' rfl rfl) .nil)))⟩
    · refine Rn.stop 1000 rfl ?_
      refine Rn.weaken trivial ?_ (ih (j + 1) (by omega) n2)
      exact ⟨⟨rfl, rfl, rfl, rfl, rfl, .cons rfl (.refl rfl) (.cons rfl (.refl rfl) (.cons rfl (.refl rfl) (.cons rfl (.refl rfl) (.cons rfl (.eq rfl (congrArg I (by rw [n1, hs]; rfl))) (.cons rfl (.eq rfl (congrArg I (w64_nat hd hlt))) .nil))))), rfl⟩, trivial,
        .cons rfl (.flat' rfl rfl) (.cons rfl (.flat' rfl rfl) (.cons rfl (.flat' rfl rfl) (.cons rfl (.flat' rfl rfl) .nil)))⟩
  · have hd : ¬ (j : Int) < (s.trees.length : Int) := of_decide_eq_false hd
    have : j = s.trees.length := by omega
    subst this
    exact Rn.ret 1000 rfl rfl rfl
end Go.Proofs.Am

/- The scene of the examples. -/
namespace Go.Proofs.Am
open Go Go.Proofs.Geo
set_option maxRecDepth 100000

theorem ArgsTo.len : ∀ {l l' : List AV}, ArgsTo l l' → l.length = l'.length
  | [], [], _ => rfl
  | a :: l, a' :: l', h => by simp [ArgsTo.len h.2]
  | [], _ :: _, h => h.elim
  | _ :: _, [], h => h.elim
theorem ArgsTo.at : ∀ {l l' : List AV}, ArgsTo l l' → ∀ i (h : i < l.length) (h' : i < l'.length), ArgTo l[i] l'[i]
  | a :: l, a' :: l', h, 0, _, _ => h.1
  | a :: l, a' :: l', h, i + 1, h1, h2 => ArgsTo.at h.2 i (by simpa using h1) (by simpa using h2)
  | [], _ :: _, h, _, _, _ => h.elim
  | _ :: _, [], h, _, _, _ => h.elim
theorem ArgsTo.refl : ∀ l : List AV, ArgsTo l l
  | [] => trivial
  | a :: l => ⟨.refl a, ArgsTo.refl l⟩
theorem ArgTo.row {n sz : Nat} {get get' : Nat → List AV} (h : ∀ i, i < n → ArgsTo (get i) (get' i)) : ArgTo (.rsl n sz get) (.rsl n sz get') := fun m v r => by
  cases r with
  | rsl0 _ _ a cap => exact .rsl0 sz get' a cap
  | rsl _ _ _ bk o cap u hc hl hcell h1 hr =>
    refine .rsl n sz get' bk o cap u hc (fun i hi => by rw [← (h i hi).len]; exact hl i hi) hcell h1 fun i hi j hj => ?_
    have hj' : j < (get i).length := by rw [(h i hi).len]; exact hj
    exact (h i hi).at j hj' hj _ _ (hr i hi j hj')
theorem ArgTo.agg {l l' : List AV} (h : ArgsTo l l') : ArgTo (.agg l) (.agg l') := fun m v r => by
  cases r with
  | agg _ vs hl hr => exact .agg _ vs (by rw [← h.len]; exact hl) fun i hi hj => h.at i (by rw [h.len]; exact hi) hi _ _ (hr i (by rw [h.len]; exact hi) hj)

noncomputable abbrev fsX : List (Nat × Func) := [(43, Tryz.f43), (19, Tryz.f19), (3, Tryz.f3), (5, Tryz.f5)]
theorem cX : CtxOK Tryz.prog (ctx [] fsX) := ctx_ok (show FsOK Tryz.prog fsX from ⟨Tryz.func43, Tryz.call43, Tryz.func19, Tryz.call19, Tryz.func3, Tryz.call3, Tryz.func5, Tryz.call5, trivial⟩) rfl

def exS : Sc := ⟨[⟨[104, 105, 103, 104], 0, [(0, 0), (10000, 0), (10000, 10000)], 4000⟩, ⟨[122, 101, 98, 114, 97], 3, [(5000, -2000), (5000, 2000)], 3000⟩],
  [⟨4000, 3000, 1000, 20, 40⟩], [⟨10000, 5000, 0, 5000, [⟨250, 750, 10, 30⟩]⟩], [⟨[99, 49], 4000, 4000, 60, 0, -1⟩]⟩
theorem exS_ok : exS.ok := by
  unfold Sc.ok exS small
  refine ⟨by decide, by decide, by decide, by decide, ?_, ?_, ?_⟩ <;> intro x hx <;> simp only [List.mem_cons, List.not_mem_nil, or_false] at hx
  · rcases hx with rfl | rfl <;> exact ⟨by simp only [small]; decide, by simp only [small]; decide⟩
  · subst hx; show small _; simp only [small]; decide
  · subst hx; show small _; simp only [small]; decide
theorem example_fun : Fun Tryz.prog 43 [] (scA exS) := by
  refine Fun.res_to' ?_ (Fun.of_run cX rfl (Rn.ret 1000 rfl rfl rfl))
  refine ArgTo.agg ⟨ArgTo.row fun i hi => ?_, ArgTo.row fun i hi => ?_, ArgTo.row fun i hi => ?_, ArgTo.row fun i hi => ?_, trivial⟩
  · match i, hi with
    | 0, _ => exact ⟨.refl _, .refl _, ArgTo.row fun j hj => (match j, hj with | 0, _ => ArgsTo.refl _ | 1, _ => ArgsTo.refl _ | 2, _ => ArgsTo.refl _), .refl _, trivial⟩
    | 1, _ => exact ⟨.refl _, .refl _, ArgTo.row fun j hj => (match j, hj with | 0, _ => ArgsTo.refl _ | 1, _ => ArgsTo.refl _), .refl _, trivial⟩
  · match i, hi with
    | 0, _ => exact ArgsTo.refl _
  · match i, hi with
    | 0, _ => exact ⟨.refl _, .refl _, .refl _, .refl _, ArgTo.row fun j hj => (match j, hj with | 0, _ => ArgsTo.refl _), trivial⟩
  · match i, hi with
    | 0, _ => exact ArgsTo.refl _
end Go.Proofs.Am

/- The calls that keep the statements awake. -/
namespace Go.Proofs.Am
open Go Go.Proofs.Geo
set_option maxRecDepth 100000

theorem nil_to (sz : Nat) (get : Nat → List AV) : ArgTo (.v (.slice none 0 0)) (.rsl 0 sz get) := fun m v r => by
  cases r with
  | v => exact .rsl0 sz get none 0
def oneTree : Sc := ⟨[], [⟨0, 0, 0, 0, 0⟩], [], []⟩
theorem oneTree_ok : oneTree.ok := by
  unfold Sc.ok oneTree small
  refine ⟨by decide, by decide, by decide, by decide, ?_, ?_, ?_⟩ <;> intro x hx <;> cases hx
theorem aw1 : meetsS exS 0 ⟨8500, -1500, 11500, 1500⟩ = (1, 0) := by kernel_rfl
theorem aw2 : shadeS exS 0 ⟨3900, 3900, 4100, 4100⟩ = (1, 0) := by kernel_rfl
theorem aw3 : shadedS exS 0 4000 5000 = (-1, 0) := by kernel_rfl
theorem aw4 : chkE oneTree = (2, 0, 7) := by kernel_rfl
theorem awake_fun : Fun Tryz.prog 19 [] (B true) := by
  refine Fun.of_run cX rfl ?_
  refine Rn.call 1000 rfl _ example_fun ?_
  have k1 := (Meets_fun exS exS_ok 0 ⟨8500, -1500, 11500, 1500⟩).as (r' := .tup [.v (.int .i64 1), .v (.int .i64 0)]) (by rw [aw1])
  have k2 := (Shade_fun exS exS_ok 0 ⟨3900, 3900, 4100, 4100⟩).as (r' := .tup [.v (.int .i64 1), .v (.int .i64 0)]) (by rw [aw2])
  have k3 := (Shaded_fun exS exS_ok 0 4000 5000).as (r' := .tup [.v (.int .i64 (-1)), .v (.int .i64 0)]) (by rw [aw3])
  have k4 := (check_fun oneTree oneTree_ok).as (r' := .tup [.v (.int .i64 2), .v (.int .i64 0), .v (.int .i64 7)]) (by rw [aw4])
  refine Rn.call 1000 rfl _ (k1.lit_res 6) ?_
  refine Rn.call 1000 rfl _ (k2.lit_res 6) ?_
  refine Rn.call 1000 rfl _ (k3.lit_res 6) ?_
  refine Rn.call 1000 rfl _ (Fun.args (l' := [scA oneTree]) ⟨ArgTo.agg ⟨nil_to _ _, ArgTo.row fun i hi => (match i, hi with | 0, _ => ArgsTo.refl _), nil_to _ _, nil_to _ _, trivial⟩, trivial⟩ (k4.lit_res 6)) ?_
  exact Rn.ret 1000 rfl rfl rfl
end Go.Proofs.Am

/- The statements RoadShades and RoadChecks, walked. -/
namespace Go.Proofs.Am
open Go Go.Proofs.Geo
set_option maxRecDepth 100000

structure Sp where
  i : Int
  x : Int
  y : Int
  p : Pa
abbrev spA (a : Sp) : AV := .agg [I a.i, I a.x, I a.y, I a.p.x0, I a.p.y0, I a.p.x1, I a.p.y1]
theorem roadShades_fun (s : Sc) (hs : s.ok) (a : Sp) : Fun Tryz.prog 3 [scA s, spA a] (B true) := by
  refine Fun.of_run cX rfl ?_
  refine Rn.call 1000 rfl _ (Shaded_fun s hs a.i a.x a.y) ?_
  refine Rn.call 1000 rfl _ (rShaded_fun s hs a.i a.x a.y) ?_
  refine Rn.call 1000 rfl _ (Shade_fun s hs a.i a.p) ?_
  refine Rn.call 1000 rfl _ (rShade_fun s hs a.i a.p) ?_
  repeat' refine Rn.ite 1000 rfl (fun _ => ?_) (fun h => absurd h (by simp))
  refine Rn.call 1000 rfl _ awake_fun ?_
  exact Rn.ret 1000 rfl rfl rfl
theorem roadChecks_fun (s : Sc) (hs : s.ok) (a : Sp) : Fun Tryz.prog 5 [scA s, spA a] (B true) := by
  refine Fun.of_run cX rfl ?_
  refine Rn.call 1000 rfl _ (check_fun s hs) ?_
  refine Rn.call 1000 rfl _ (rcheck_fun s hs) ?_
  refine Rn.call 1000 rfl _ (On_fun s hs a.i a.x a.y) ?_
  refine Rn.call 1000 rfl _ (rOn_fun s hs a.i a.x a.y) ?_
  repeat' refine Rn.ite 1000 rfl (fun h => absurd h (by simp)) (fun _ => ?_)
  refine Rn.call 1000 rfl _ (Meets_fun s hs a.i a.p) ?_
  refine Rn.call 1000 rfl _ (rMeets_fun s hs a.i a.p) ?_
  repeat' refine Rn.ite 1000 rfl (fun _ => ?_) (fun h => absurd h (by simp))
  refine Rn.call 1000 rfl _ awake_fun ?_
  exact Rn.ret 1000 rfl rfl rfl
end Go.Proofs.Am

/- The arguments of a statement, opened: what they read as, they are; and what a call that only reads leaves behind. -/
namespace Go.Proofs.Am
open Go Go.ChangeShapes Go.WideShapes Go.RowKit

abbrev memW (W : World) : Mem := fun b => W.heap[b]?
/-- Cells that are told by these values. -/
def RC (m : Mem) (l : List AV) (cs : List Value) : Prop := RelCL m l cs ∧ ∀ u ∈ cs, u.oneCell' = true
theorem RelCL.append {m : Mem} : ∀ {l1 l2 : List AV} {c1 c2 : List Value}, RelCL m l1 c1 → RelCL m l2 c2 → RelCL m (l1 ++ l2) (c1 ++ c2)
  | [], l2, c1, c2, h1, h2 => by
    have : c1 = [] := by have := h1.1; simpa using this.symm
    subst this; exact h2
  | a :: l1, l2, c1, c2, h1, h2 => by
    obtain ⟨x, xs, rfl, hx, hxs⟩ := h1.cons_inv
    exact .cons hx (RelCL.append hxs h2)
theorem RC.one {m : Mem} {a : AV} {v : Value} (h : RelC m a v) (h1 : v.oneCell' = true) : RC m [a] [v] := ⟨.cons h (.nil _), fun u hu => by simp at hu; subst hu; exact h1⟩
theorem RC.join {m : Mem} {l1 l2 : List AV} {cs : List Value} {off n k : Nat} (h1 : RC m l1 ((cs.drop off).take n)) (h2 : RC m l2 ((cs.drop (off + n)).take k)) : RC m (l1 ++ l2) ((cs.drop off).take (n + k)) := by
  rw [List.take_add, List.drop_drop]
  refine ⟨RelCL.append h1.1 h2.1, fun u hu => ?_⟩
  rcases List.mem_append.1 hu with hu | hu
  · exact h1.2 u hu
  · exact h2.2 u hu

variable {H : Type} {enc : TypeId × Value → H} {P : Program} {W : World}

/-- What reads as this type is told by f. -/
def Opens (enc : TypeId × Value → H) (P : Program) (W : World) (t : TypeId) {α : Type} (f : α → List AV) (ok : α → Prop) : Prop :=
  ∀ fuel cs x, DataW.trod enc P W 0 (fun _ => true) true fuel t cs = some x → ∃ a, ok a ∧ RC (memW W) (f a) cs

theorem Opens.int {t : TypeId} (ht : P.underlying t = some (.int .i64)) : Opens enc P W t iC (fun z => (Lit.int .i64 z).wf = true) := fun fuel cs x h => by
  obtain ⟨n, rfl, rfl, hw⟩ := DataW.trod_int ht h
  exact ⟨n, hw, RC.one (.v _) rfl⟩
theorem Opens.string {t : TypeId} (ht : P.underlying t = some .string) : Opens enc P W t (fun s : List UInt8 => [S s]) (fun s => small s.length) := fun fuel cs x h => by
  obtain ⟨s, rfl, rfl, hs⟩ := DataW.trod_string ht h
  refine ⟨s.data.toList, ?_, RC.one ?_ rfl⟩
  · show s.data.toList.length ≤ 9223372036854775807
    rw [Array.length_toList]
    exact Nat.le_trans hs (by decide)
  · have : (S s.data.toList) = .v (.string s) := by
      show AV.v (.string ⟨⟨s.data.toList⟩⟩) = _
      rfl
    rw [this]; exact .v _
theorem cell_m {a : Addr} {v : Value} (h : W.cell? a = some v) : a.spot = none ∧ cellM (memW W) a.block a.off = some v := by
  unfold World.cell? at h
  unfold cellM memW
  split at h
  · rename_i c _ _ hb
    rw [hb]
    split at h
    · cases h
    · rename_i hs
      refine ⟨?_, h⟩
      cases hq : a.spot with
      | none => rfl
      | some _ => rw [hq] at hs; simp at hs
  · cases h
theorem Opens.slice {t e : TypeId} {α : Type} {f : α → List AV} {ok : α → Prop} (d : α) {sz : Nat} (ht : P.underlying t = some (.slice e)) (hsz : P.cellsOf e = sz) (h0 : 0 < sz) (he : Opens enc P W e f ok) :
    Opens enc P W t (fun l : List α => [rowOf sz f d l]) (fun l => small l.length ∧ ∀ a ∈ l, ok a) := fun fuel cs x h => by
  rcases Go.Deep.open_slice ht h with ⟨rfl, rfl⟩ | ⟨a, len, cap, m, n, D, Pl, rfl, _, hl, hcap, hm, rfl, hall⟩
  · exact ⟨[], ⟨Nat.zero_le _, fun a ha => by cases ha⟩, RC.one (.rsl0 sz _ none 0) rfl⟩
  simp only [if_true] at hm

  have hcap' : cap ≤ 9223372036854775807 := Nat.le_trans hcap (by decide)
  by_cases hz : len = 0
  · subst hz
    exact ⟨[], ⟨Nat.zero_le _, fun a ha => by cases ha⟩, RC.one (.rsl0 sz _ (some a) cap) rfl⟩
  have ex : ∀ i, i < len → ∃ y, ok y ∧ RelCL (memW W) (f y) ((List.range sz).map fun j => (W.cell? (a.add (i * sz + j))).getD (.bool false)) ∧ ∀ j, j < sz → ∃ v, W.cell? (a.add (i * sz + j)) = some v ∧ v.oneCell' = true := fun i hi => by
    obtain ⟨cs', hc, ht'⟩ := hall i (by omega)
    rw [hsz] at hc
    obtain ⟨_, hlen, hcell⟩ := World.cells?_some hc
    obtain ⟨y, hy, hr⟩ := he _ _ _ ht'
    have e : cs' = (List.range sz).map fun j => (W.cell? (a.add (i * sz + j))).getD (.bool false) := by
      apply List.ext_getElem (by simp [hlen])
      intro j h1 h2
      have hj : j < sz := by omega
      have := hcell j hj
      rw [Go.Deep.add_add] at this
      simp [this, List.getElem?_eq_getElem h1]
    refine ⟨y, hy, e ▸ hr.1, fun j hj => ?_⟩
    have hj' : j < cs'.length := by omega
    have := hcell j hj
    rw [Go.Deep.add_add, List.getElem?_eq_getElem hj'] at this
    exact ⟨_, this, hr.2 _ (List.getElem_mem hj')⟩
  letI : Inhabited α := ⟨d⟩
  obtain ⟨A, hA⟩ := Go.Deep.choose_lt ex
  obtain ⟨bk, o, spot⟩ := a
  have hsp : spot = none := by
    obtain ⟨v, hv, _⟩ := (hA 0 (by omega)).2.2 0 h0
    have := (cell_m hv).1
    simpa [Addr.add] using this
  subst hsp
  have hadd : ∀ k, (⟨bk, o, none⟩ : Addr).add k = ⟨bk, o + k, none⟩ := fun k => by
    unfold Addr.add; split
    · rename_i hk; subst hk; rfl
    · rfl
  have gl : ∀ i, i < len → ((List.range len).map A).getD i d = A i := fun i hi => by
    simp [List.getD_eq_getElem?_getD, hi]
  refine ⟨(List.range len).map A, ⟨by show ((List.range len).map A).length ≤ _; simp; omega, fun y hy => ?_⟩, RC.one ?_ rfl⟩
  · obtain ⟨i, hi, rfl⟩ := List.mem_map.1 hy
    exact (hA i (List.mem_range.1 hi)).1
  have hlen : ((List.range len).map A).length = len := by simp
  show RelC (memW W) (.rsl ((List.range len).map A).length sz fun i => f (((List.range len).map A).getD i d)) _
  rw [hlen]
  refine .rsl len sz _ bk o cap (fun i j => (W.cell? ⟨bk, o + (i * sz + j), none⟩).getD (.bool false)) hl (fun i hi => ?_) (fun i hi j hj => ?_) (fun i hi j hj => ?_) fun i hi j hj => ?_
  · rw [gl i hi]
    have := (hA i hi).2.1.1
    simpa using this
  · obtain ⟨v, hv, _⟩ := (hA i hi).2.2 j hj
    rw [hadd] at hv
    rw [hv]
    have := (cell_m hv).2
    simpa [Nat.add_assoc] using this
  · obtain ⟨v, hv, h1⟩ := (hA i hi).2.2 j hj
    rw [hadd] at hv
    rw [hv]; exact h1
  · have e := gl i hi
    have hj2 : j < (f (A i)).length := by simp only [e] at hj; exact hj
    have hr := (hA i hi).2.1
    have hjs : j < sz := by
      have := hr.1
      simp at this; omega
    have := hr.2 j hj2 (by simpa using hjs)
    simp only [List.getElem_map, List.getElem_range, hadd] at this
    have e2 : (f (((List.range len).map A).getD i d))[j] = (f (A i))[j] := by simp only [e]
    rw [e2]; exact this
/-- A field of a struct. -/
theorem field_of {t : TypeId} {fs : Array Field} {fuel : Nat} {cs : List Value} {x : DataW H × List MemPlace} (ht : P.underlying t = some (.struct fs)) (h : DataW.trod enc P W 0 (fun _ => true) true fuel t cs = some x) :
    cs.length = P.cellsOf t ∧ ∃ n, ∀ (i : Nat) (f : Field), fs[i]? = some f → ∃ y, DataW.trod enc P W 0 (fun _ => true) true n f.type ((cs.drop f.offset).take (P.cellsOf f.type)) = some y := by
  obtain ⟨xs, n, _, rfl, hl, hlen, hf⟩ := DataW.trod_struct ht h
  refine ⟨hl, n, fun i f hi => ?_⟩
  have h1 := hf i f hi
  have : i < xs.length := by
    rw [hlen]
    exact (Array.getElem?_eq_some_iff.1 hi).1
  rw [List.getElem?_eq_getElem this] at h1
  exact ⟨_, h1⟩
theorem elem_of {t e : TypeId} {n : Nat} {fuel : Nat} {cs : List Value} {x : DataW H × List MemPlace} (ht : P.underlying t = some (.array n e)) (h : DataW.trod enc P W 0 (fun _ => true) true fuel t cs = some x) :
    cs.length = P.cellsOf t ∧ ∃ m, ∀ i, i < n → ∃ y, DataW.trod enc P W 0 (fun _ => true) true m e ((cs.drop (i * P.cellsOf e)).take (P.cellsOf e)) = some y := by
  obtain ⟨xs, m, _, rfl, hl, hlen, hf⟩ := DataW.trod_array ht h
  refine ⟨hl, m, fun i hi => ?_⟩
  have h1 := hf i hi
  rw [List.getElem?_eq_getElem (by omega)] at h1
  exact ⟨_, h1⟩
theorem whole_of {m : Mem} {l : List AV} {cs : List Value} {n : Nat} (hl : cs.length = n) (h : RC m l ((cs.drop 0).take n)) : RC m l cs := by
  rw [List.drop_zero, List.take_of_length_le (by omega)] at h
  exact h
end Go.Proofs.Am

/- MADE BY gen_op.py: the types of the arguments, opened. -/
namespace Go.Proofs.Am
open Go Go.ChangeShapes Go.WideShapes Go.RowKit
set_option maxRecDepth 100000
variable {H : Type} {enc : TypeId × Value → H} {W : World}
theorem RC.cut {m : Mem} {l : List AV} {cs : List Value} {off n n' : Nat} (e : n = n') (h : RC m l ((cs.drop off).take n)) : RC m l ((cs.drop off).take n') := e ▸ h
theorem cel3 : Tryz.prog.cellsOf 3 = 1 := by kernel_rfl
theorem cel9 : Tryz.prog.cellsOf 9 = 1 := by kernel_rfl
theorem cel72 : Tryz.prog.cellsOf 72 = 2 := by kernel_rfl
theorem cel52 : Tryz.prog.cellsOf 52 = 1 := by kernel_rfl
theorem cel54 : Tryz.prog.cellsOf 54 = 4 := by kernel_rfl
theorem cel57 : Tryz.prog.cellsOf 57 = 5 := by kernel_rfl
theorem cel137 : Tryz.prog.cellsOf 137 = 4 := by kernel_rfl
theorem cel121 : Tryz.prog.cellsOf 121 = 1 := by kernel_rfl
theorem cel123 : Tryz.prog.cellsOf 123 = 5 := by kernel_rfl
theorem cel100 : Tryz.prog.cellsOf 100 = 6 := by kernel_rfl
theorem cel22 : Tryz.prog.cellsOf 22 = 1 := by kernel_rfl
theorem cel23 : Tryz.prog.cellsOf 23 = 1 := by kernel_rfl
theorem cel24 : Tryz.prog.cellsOf 24 = 1 := by kernel_rfl
theorem cel25 : Tryz.prog.cellsOf 25 = 1 := by kernel_rfl
theorem cel27 : Tryz.prog.cellsOf 27 = 4 := by kernel_rfl
theorem cel29 : Tryz.prog.cellsOf 29 = 4 := by kernel_rfl
theorem cel31 : Tryz.prog.cellsOf 31 = 7 := by kernel_rfl
theorem op3 : Opens enc Tryz.prog W 3 iC (fun z => (Lit.int .i64 z).wf = true) := Opens.int Tryz.underlying3
theorem op9 : Opens enc Tryz.prog W 9 (fun s : List UInt8 => [S s]) (fun s => small s.length) := Opens.string Tryz.underlying9
theorem op72 : Opens enc Tryz.prog W 72 ptC (fun p => (Lit.int .i64 p.1).wf = true ∧ (Lit.int .i64 p.2).wf = true) := fun fuel cs x h => by
  obtain ⟨hl, m, hf⟩ := elem_of Tryz.underlying72 h
  obtain ⟨_, f0⟩ := hf 0 (by decide)
  obtain ⟨_, f1⟩ := hf 1 (by decide)
  rw [cel3] at f0 f1
  obtain ⟨a0, h0, r0⟩ := op3 _ _ _ f0
  obtain ⟨a1, h1, r1⟩ := op3 _ _ _ f1
  exact ⟨(a0, a1), ⟨h0, h1⟩, whole_of (hl.trans cel72) (RC.join (off := 0) (n := 1) (k := 1) r0 r1)⟩
theorem op52 : Opens enc Tryz.prog W 52 (fun l => [rowOf 2 ptC (0, 0) l]) (fun l => small l.length ∧ ∀ a ∈ l, (Lit.int .i64 a.1).wf = true ∧ (Lit.int .i64 a.2).wf = true) := Opens.slice (0, 0) Tryz.underlying52 cel72 (by decide) op72
theorem op54 : Opens enc Tryz.prog W 54 rdC Rd.ok := fun fuel cs x h => by
  obtain ⟨hl, m, hf⟩ := field_of Tryz.underlying54 h
  obtain ⟨_, f0⟩ := hf 0 _ rfl
  obtain ⟨a0, h0, r0⟩ := op9 _ _ _ f0
  have r0 := RC.cut (off := 0) cel9 r0
  obtain ⟨_, f1⟩ := hf 1 _ rfl
  obtain ⟨a1, h1, r1⟩ := op3 _ _ _ f1
  have r1 := RC.cut (off := 1) cel3 r1
  obtain ⟨_, f2⟩ := hf 2 _ rfl
  obtain ⟨a2, h2, r2⟩ := op52 _ _ _ f2
  have r2 := RC.cut (off := 2) cel52 r2
  obtain ⟨_, f3⟩ := hf 3 _ rfl
  obtain ⟨a3, h3, r3⟩ := op3 _ _ _ f3
  have r3 := RC.cut (off := 3) cel3 r3
  exact ⟨⟨a0, a1, a2, a3⟩, ⟨h0, h2.1⟩, whole_of (hl.trans cel54) (RC.join (off := 0) (n := 3) (k := 1) (RC.join (off := 0) (n := 2) (k := 1) (RC.join (off := 0) (n := 1) (k := 1) r0 r1) r2) r3)⟩
theorem op57 : Opens enc Tryz.prog W 57 trC (fun _ => True) := fun fuel cs x h => by
  obtain ⟨hl, m, hf⟩ := field_of Tryz.underlying57 h
  obtain ⟨_, f0⟩ := hf 0 _ rfl
  obtain ⟨a0, h0, r0⟩ := op3 _ _ _ f0
  have r0 := RC.cut (off := 0) cel3 r0
  obtain ⟨_, f1⟩ := hf 1 _ rfl
  obtain ⟨a1, h1, r1⟩ := op3 _ _ _ f1
  have r1 := RC.cut (off := 1) cel3 r1
  obtain ⟨_, f2⟩ := hf 2 _ rfl
  obtain ⟨a2, h2, r2⟩ := op3 _ _ _ f2
  have r2 := RC.cut (off := 2) cel3 r2
  obtain ⟨_, f3⟩ := hf 3 _ rfl
  obtain ⟨a3, h3, r3⟩ := op3 _ _ _ f3
  have r3 := RC.cut (off := 3) cel3 r3
  obtain ⟨_, f4⟩ := hf 4 _ rfl
  obtain ⟨a4, h4, r4⟩ := op3 _ _ _ f4
  have r4 := RC.cut (off := 4) cel3 r4
  exact ⟨⟨a0, a1, a2, a3, a4⟩, trivial, whole_of (hl.trans cel57) (RC.join (off := 0) (n := 4) (k := 1) (RC.join (off := 0) (n := 3) (k := 1) (RC.join (off := 0) (n := 2) (k := 1) (RC.join (off := 0) (n := 1) (k := 1) r0 r1) r2) r3) r4)⟩
theorem op137 : Opens enc Tryz.prog W 137 wnC (fun _ => True) := fun fuel cs x h => by
  obtain ⟨hl, m, hf⟩ := field_of Tryz.underlying137 h
  obtain ⟨_, f0⟩ := hf 0 _ rfl
  obtain ⟨a0, h0, r0⟩ := op3 _ _ _ f0
  have r0 := RC.cut (off := 0) cel3 r0
  obtain ⟨_, f1⟩ := hf 1 _ rfl
  obtain ⟨a1, h1, r1⟩ := op3 _ _ _ f1
  have r1 := RC.cut (off := 1) cel3 r1
  obtain ⟨_, f2⟩ := hf 2 _ rfl
  obtain ⟨a2, h2, r2⟩ := op3 _ _ _ f2
  have r2 := RC.cut (off := 2) cel3 r2
  obtain ⟨_, f3⟩ := hf 3 _ rfl
  obtain ⟨a3, h3, r3⟩ := op3 _ _ _ f3
  have r3 := RC.cut (off := 3) cel3 r3
  exact ⟨⟨a0, a1, a2, a3⟩, trivial, whole_of (hl.trans cel137) (RC.join (off := 0) (n := 3) (k := 1) (RC.join (off := 0) (n := 2) (k := 1) (RC.join (off := 0) (n := 1) (k := 1) r0 r1) r2) r3)⟩
theorem op121 : Opens enc Tryz.prog W 121 (fun l => [rowOf 4 wnC default l]) (fun l => small l.length ∧ ∀ a ∈ l, True) := Opens.slice default Tryz.underlying121 cel137 (by decide) op137
theorem op123 : Opens enc Tryz.prog W 123 ftC Ft.ok := fun fuel cs x h => by
  obtain ⟨hl, m, hf⟩ := field_of Tryz.underlying123 h
  obtain ⟨_, f0⟩ := hf 0 _ rfl
  obtain ⟨a0, h0, r0⟩ := op72 _ _ _ f0
  have r0 := RC.cut (off := 0) cel72 r0
  obtain ⟨_, f1⟩ := hf 1 _ rfl
  obtain ⟨a1, h1, r1⟩ := op72 _ _ _ f1
  have r1 := RC.cut (off := 2) cel72 r1
  obtain ⟨_, f2⟩ := hf 2 _ rfl
  obtain ⟨a2, h2, r2⟩ := op121 _ _ _ f2
  have r2 := RC.cut (off := 4) cel121 r2
  exact ⟨⟨a0.1, a0.2, a1.1, a1.2, a2⟩, h2.1, whole_of (hl.trans cel123) (RC.join (off := 0) (n := 4) (k := 1) (RC.join (off := 0) (n := 2) (k := 2) r0 r1) r2)⟩
theorem op100 : Opens enc Tryz.prog W 100 clC Cl.ok := fun fuel cs x h => by
  obtain ⟨hl, m, hf⟩ := field_of Tryz.underlying100 h
  obtain ⟨_, f0⟩ := hf 0 _ rfl
  obtain ⟨a0, h0, r0⟩ := op9 _ _ _ f0
  have r0 := RC.cut (off := 0) cel9 r0
  obtain ⟨_, f1⟩ := hf 1 _ rfl
  obtain ⟨a1, h1, r1⟩ := op3 _ _ _ f1
  have r1 := RC.cut (off := 1) cel3 r1
  obtain ⟨_, f2⟩ := hf 2 _ rfl
  obtain ⟨a2, h2, r2⟩ := op3 _ _ _ f2
  have r2 := RC.cut (off := 2) cel3 r2
  obtain ⟨_, f3⟩ := hf 3 _ rfl
  obtain ⟨a3, h3, r3⟩ := op3 _ _ _ f3
  have r3 := RC.cut (off := 3) cel3 r3
  obtain ⟨_, f4⟩ := hf 4 _ rfl
  obtain ⟨a4, h4, r4⟩ := op3 _ _ _ f4
  have r4 := RC.cut (off := 4) cel3 r4
  obtain ⟨_, f5⟩ := hf 5 _ rfl
  obtain ⟨a5, h5, r5⟩ := op3 _ _ _ f5
  have r5 := RC.cut (off := 5) cel3 r5
  exact ⟨⟨a0, a1, a2, a3, a4, a5⟩, h0, whole_of (hl.trans cel100) (RC.join (off := 0) (n := 5) (k := 1) (RC.join (off := 0) (n := 4) (k := 1) (RC.join (off := 0) (n := 3) (k := 1) (RC.join (off := 0) (n := 2) (k := 1) (RC.join (off := 0) (n := 1) (k := 1) r0 r1) r2) r3) r4) r5)⟩
theorem op22 : Opens enc Tryz.prog W 22 (fun l => [rowOf 4 rdC default l]) (fun l => small l.length ∧ ∀ a ∈ l, a.ok) := Opens.slice default Tryz.underlying22 cel54 (by decide) op54
theorem op23 : Opens enc Tryz.prog W 23 (fun l => [rowOf 5 trC default l]) (fun l => small l.length ∧ ∀ a ∈ l, True) := Opens.slice default Tryz.underlying23 cel57 (by decide) op57
theorem op24 : Opens enc Tryz.prog W 24 (fun l => [rowOf 5 ftC default l]) (fun l => small l.length ∧ ∀ a ∈ l, a.ok) := Opens.slice default Tryz.underlying24 cel123 (by decide) op123
theorem op25 : Opens enc Tryz.prog W 25 (fun l => [rowOf 6 clC default l]) (fun l => small l.length ∧ ∀ a ∈ l, a.ok) := Opens.slice default Tryz.underlying25 cel100 (by decide) op100
theorem op27 : Opens enc Tryz.prog W 27 (fun s : Sc => [rdsA s.roads, trsA s.trees, ftsA s.fronts, clsA s.cols]) Sc.ok := fun fuel cs x h => by
  obtain ⟨hl, m, hf⟩ := field_of Tryz.underlying27 h
  obtain ⟨_, f0⟩ := hf 0 _ rfl
  obtain ⟨a0, h0, r0⟩ := op22 _ _ _ f0
  have r0 := RC.cut (off := 0) cel22 r0
  obtain ⟨_, f1⟩ := hf 1 _ rfl
  obtain ⟨a1, h1, r1⟩ := op23 _ _ _ f1
  have r1 := RC.cut (off := 1) cel23 r1
  obtain ⟨_, f2⟩ := hf 2 _ rfl
  obtain ⟨a2, h2, r2⟩ := op24 _ _ _ f2
  have r2 := RC.cut (off := 2) cel24 r2
  obtain ⟨_, f3⟩ := hf 3 _ rfl
  obtain ⟨a3, h3, r3⟩ := op25 _ _ _ f3
  have r3 := RC.cut (off := 3) cel25 r3
  exact ⟨⟨a0, a1, a2, a3⟩, ⟨h0.1, h1.1, h2.1, h3.1, h0.2, h2.2, h3.2⟩, whole_of (hl.trans cel27) (RC.join (off := 0) (n := 3) (k := 1) (RC.join (off := 0) (n := 2) (k := 1) (RC.join (off := 0) (n := 1) (k := 1) r0 r1) r2) r3)⟩
theorem op29 : Opens enc Tryz.prog W 29 (fun p : Pa => [I p.x0, I p.y0, I p.x1, I p.y1]) (fun p => ((Lit.int .i64 p.x0).wf = true ∧ (Lit.int .i64 p.y0).wf = true) ∧ (Lit.int .i64 p.x1).wf = true ∧ (Lit.int .i64 p.y1).wf = true) := fun fuel cs x h => by
  obtain ⟨hl, m, hf⟩ := field_of Tryz.underlying29 h
  obtain ⟨_, f0⟩ := hf 0 _ rfl
  obtain ⟨a0, h0, r0⟩ := op3 _ _ _ f0
  have r0 := RC.cut (off := 0) cel3 r0
  obtain ⟨_, f1⟩ := hf 1 _ rfl
  obtain ⟨a1, h1, r1⟩ := op3 _ _ _ f1
  have r1 := RC.cut (off := 1) cel3 r1
  obtain ⟨_, f2⟩ := hf 2 _ rfl
  obtain ⟨a2, h2, r2⟩ := op3 _ _ _ f2
  have r2 := RC.cut (off := 2) cel3 r2
  obtain ⟨_, f3⟩ := hf 3 _ rfl
  obtain ⟨a3, h3, r3⟩ := op3 _ _ _ f3
  have r3 := RC.cut (off := 3) cel3 r3
  exact ⟨⟨a0, a1, a2, a3⟩, ⟨⟨h0, h1⟩, h2, h3⟩, whole_of (hl.trans cel29) (RC.join (off := 0) (n := 3) (k := 1) (RC.join (off := 0) (n := 2) (k := 1) (RC.join (off := 0) (n := 1) (k := 1) r0 r1) r2) r3)⟩
theorem op31 : Opens enc Tryz.prog W 31 (fun a : Sp => [I a.i, I a.x, I a.y, I a.p.x0, I a.p.y0, I a.p.x1, I a.p.y1]) (fun _ => True) := fun fuel cs x h => by
  obtain ⟨hl, m, hf⟩ := field_of Tryz.underlying31 h
  obtain ⟨_, f0⟩ := hf 0 _ rfl
  obtain ⟨a0, h0, r0⟩ := op3 _ _ _ f0
  have r0 := RC.cut (off := 0) cel3 r0
  obtain ⟨_, f1⟩ := hf 1 _ rfl
  obtain ⟨a1, h1, r1⟩ := op3 _ _ _ f1
  have r1 := RC.cut (off := 1) cel3 r1
  obtain ⟨_, f2⟩ := hf 2 _ rfl
  obtain ⟨a2, h2, r2⟩ := op3 _ _ _ f2
  have r2 := RC.cut (off := 2) cel3 r2
  obtain ⟨_, f3⟩ := hf 3 _ rfl
  obtain ⟨a3, h3, r3⟩ := op29 _ _ _ f3
  have r3 := RC.cut (off := 3) cel29 r3
  exact ⟨⟨a0, a1, a2, a3⟩, trivial, whole_of (hl.trans cel31) (RC.join (off := 0) (n := 3) (k := 4) (RC.join (off := 0) (n := 2) (k := 1) (RC.join (off := 0) (n := 1) (k := 1) r0 r1) r2) r3)⟩

/-- An argument that is a struct. -/
theorem arg_agg {P : Program} {t : TypeId} {fs : Array Field} {α : Type} {f : α → List AV} {ok : α → Prop} (ht : P.underlying t = some (.struct fs)) (ho : Opens enc P W t f ok) {b0 : Nat} {v : Value} {d : DataW H} {ps : List MemPlace}
    (hval : Value.okWide P W .any b0 t v) (hd : DataW.Trod enc P W 0 (fun _ => true) true t v d ps) : ∃ a, ok a ∧ RelC (memW W) (.agg (f a)) v := by
  unfold Value.okWide at hval
  rw [ht] at hval
  obtain ⟨cs, rfl, _, _⟩ := hval
  obtain ⟨fuel, hf⟩ := hd
  obtain ⟨a, ha, hr, _⟩ := ho _ _ _ hf
  refine ⟨a, ha, .agg _ cs ?_ fun i hi hj => ?_⟩
  · have := hr.1
    simpa [Value.cells] using this
  · have := hr.2 i hi (by simpa [Value.cells] using hj)
    simpa [Value.cells] using this
/-- The statement's end, where nothing that was there has turned. -/
theorem post_same2 {P : Program} {f : Func} {s : ChangeSpec} {apart fresh handsOn again : Bool} {W' : World} {args : Array Value} {v : Value} {ds gs : List (DataW H)} {before pa pv : List MemPlace}
    (hW : DataW.Whole enc P f.params.toList s.vars apart W args.toList ds gs before)
    (hres : ∀ (b : Nat) (sp : Nat → Bool) (hd : Bool), DataW.TrodAll enc P W' b sp hd f.resultTypes.toList (v.resultList f.resultTypes.size) (s.fn H (ds ++ gs)).results [])
    (hargs : ∀ sp : Nat → Bool, (∀ p ∈ before, sp p.block = true) → DataW.TrodAll enc P W' 0 sp true f.params.toList args.toList (s.fn H (ds ++ gs)).args pa)
    (hvars : ∀ sp : Nat → Bool, (∀ p ∈ before, sp p.block = true) → DataW.TrodVars enc P W' sp s.vars (s.fn H (ds ++ gs)).vars pv)
    (hps : before = pa ++ pv) (hb : Below W.heap.size W W')
    (hok : ∀ (j : Nat) (t : TypeId) (r : Value), f.resultTypes[j]? = some t → (v.resultList f.resultTypes.size)[j]? = some r → Value.okWide P W' .any 0 t r) :
    s.post enc P f apart fresh handsOn again W args v W' := by
  have hold : ∀ p ∈ before, (fun b => decide (b < W.heap.size)) p.block = true := fun p hp => by simpa using hW.lt p hp
  refine ⟨ds, gs, before, [], pa, pv, hW, hres _ _ _, hargs _ hold, hvars _ hold, World.keptBut_mono (fun p hp => ⟨hp, ?_⟩) (hb.frame _), fun _ => ?_⟩
  · rw [hps, List.mem_append] at hp
    exact Or.inr hp
  · have hlt := hW.lt
    obtain ⟨_, _, _, _, _, hz, hn⟩ := hW
    refine ⟨hok, _, _, ([] ++ pa) ++ pv, ⟨[] ++ pa, pv, trodAll_append (hargs _ (fun _ _ => rfl)) (hres _ _ _), hvars _ (fun _ _ => rfl), rfl, ?_, ?_⟩, ?_⟩
    · intro b off hp
      have hp : MemPlace.cell b off ∈ before := by rw [hps]; simpa using hp
      rw [hb.frozen (hlt _ hp)]
      exact hz b off hp
    · intro ha
      have := hn ha
      rw [hps] at this
      simpa using this
    · intro p hp _
      rw [hps]
      simpa using hp
end Go.Proofs.Am
