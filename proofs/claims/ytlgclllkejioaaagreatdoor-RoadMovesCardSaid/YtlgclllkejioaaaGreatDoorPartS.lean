/- Part of the proofs about the layer of roads: Scenes that are turned by a right angle and moved: plain laws. Scenes that are turned and moved, walked. The statement RoadMoves, walked. The arguments of RoadMoves, opened. -/
import Derived.Test.YtlgclllkejioaaaGreatDoorPartR
import Derived.Test.YtlgclllkejioaaaGreatDoorPartL
import Derived.Test.YtlgclllkejioaaaGreatDoorPartQ
import Derived.Test.YtlgclllkejioaaaGreatDoorPartN
import Derived.Test.YtlgclllkejioaaaGreatDoorPartK
set_option linter.unusedVariables false
set_option linter.unusedSimpArgs false

/- Scenes that are turned by a right angle and moved: plain laws. -/
namespace Go.Proofs.Am
open Go Go.Proofs.Geo
set_option maxRecDepth 100000

/-- A turn to the left (if t), and a shift. -/
def mvP (t : Bool) (a b : Int) (p : Int × Int) : Int × Int := if t then (-p.2 + a, p.1 + b) else (p.1 + a, p.2 + b)
def mvQ (t : Bool) (a b : Int) (q : Pt) : Pt := if t then ⟨-q.y + a, q.x + b⟩ else ⟨q.x + a, q.y + b⟩
def mvI (t : Bool) (a b : Int) (q : Pt) : Pt := if t then ⟨q.y - b, -(q.x - a)⟩ else ⟨q.x - a, q.y - b⟩
theorem mv_toP (t : Bool) (a b : Int) (p : Int × Int) : toP (mvP t a b p) = mvQ t a b (toP p) := by
  cases t
  · simp [toP, mvP, mvQ, Rat.intCast_add]
  · simp [toP, mvP, mvQ, Rat.intCast_add, Rat.intCast_neg]
theorem mv_inv (t : Bool) (a b : Int) (q : Pt) : mvQ t a b (mvI t a b q) = q := by
  cases q
  cases t
  · simp only [mvQ, mvI, Pt.mk.injEq, if_false, Bool.false_eq_true]; constructor <;> grind
  · simp only [mvQ, mvI, Pt.mk.injEq, if_true]; constructor <;> grind
theorem mv_dst (t : Bool) (a b : Int) (p q : Pt) : dst (mvQ t a b p) (mvQ t a b q) = dst p q := by
  cases t
  · simp only [mvQ, dst, if_false, Bool.false_eq_true]; grind
  · simp only [mvQ, dst, if_true]; grind
theorem mv_on (t : Bool) (a b : Int) (p q : Pt) (s : Rat) : mvQ t a b (on p q s) = on (mvQ t a b p) (mvQ t a b q) s := by
  cases t
  · simp only [mvQ, on, if_false, Bool.false_eq_true, Pt.mk.injEq]; constructor <;> grind
  · simp only [mvQ, on, if_true, Pt.mk.injEq]; constructor <;> grind
theorem mv_near (t : Bool) (a b : Int) (p q x : Pt) (r : Rat) : Near (mvQ t a b p) (mvQ t a b q) (mvQ t a b x) r ↔ Near p q x r := by
  unfold Near
  constructor
  · rintro ⟨s, h0, h1, h⟩; exact ⟨s, h0, h1, by rw [← mv_on, mv_dst] at h; exact h⟩
  · rintro ⟨s, h0, h1, h⟩; exact ⟨s, h0, h1, by rw [← mv_on, mv_dst]; exact h⟩
theorem mv_two (t : Bool) (a b : Int) (q : Pt) : two (mvQ t a b q) = mvQ t (2 * a) (2 * b) (two q) := by
  cases t
  · simp only [mvQ, two, if_false, Bool.false_eq_true, Pt.mk.injEq, Rat.intCast_mul]; constructor <;> grind
  · simp only [mvQ, two, if_true, Pt.mk.injEq, Rat.intCast_mul]; constructor <;> grind
theorem mv_dbl (t : Bool) (a b : Int) (p : Int × Int) : dbl (mvP t a b p) = mvP t (2 * a) (2 * b) (dbl p) := by
  cases t
  · simp only [mvP, dbl, if_false, Bool.false_eq_true, Prod.mk.injEq]; constructor <;> omega
  · simp only [mvP, dbl, if_true, Prod.mk.injEq]; constructor <;> omega

def mvR (t : Bool) (a b : Int) (r : Rd) : Rd := ⟨r.name, r.kind, r.pts.map (mvP t a b), r.width⟩
def mvT (t : Bool) (a b : Int) (x : Tr) : Tr := ⟨(mvP t a b (x.x, x.y)).1, (mvP t a b (x.x, x.y)).2, x.r, x.low, x.high⟩
def mvF (t : Bool) (a b : Int) (f : Ft) : Ft := ⟨(mvP t a b (f.ax, f.ay)).1, (mvP t a b (f.ax, f.ay)).2, (mvP t a b (f.bx, f.bY)).1, (mvP t a b (f.bx, f.bY)).2, f.ws⟩
def mvC (t : Bool) (a b : Int) (c : Cl) : Cl := ⟨c.name, (mvP t a b (c.x, c.y)).1, (mvP t a b (c.x, c.y)).2, c.h, (mvP t 0 0 (c.dx, c.dy)).1, (mvP t 0 0 (c.dx, c.dy)).2⟩
def mvS (t : Bool) (a b : Int) (s : Sc) : Sc := ⟨s.roads.map (mvR t a b), s.trees.map (mvT t a b), s.fronts.map (mvF t a b), s.cols.map (mvC t a b)⟩
/-- A patch, turned and moved. -/
def mvPa (t : Bool) (a b : Int) (p : Pa) : Pa :=
  ⟨min (mvP t a b (p.x0, p.y0)).1 (mvP t a b (p.x1, p.y1)).1, min (mvP t a b (p.x0, p.y0)).2 (mvP t a b (p.x1, p.y1)).2, max (mvP t a b (p.x0, p.y0)).1 (mvP t a b (p.x1, p.y1)).1, max (mvP t a b (p.x0, p.y0)).2 (mvP t a b (p.x1, p.y1)).2⟩
theorem mv_box {t : Bool} {a b : Int} {p : Pa} (hp : roughB p = false) (q : Pt) : InBox (box1 (mvPa t a b p)) (mvQ t a b q) ↔ InBox (box1 p) q := by
  obtain ⟨_, hx, hy⟩ := rough_iff.1 hp
  cases t
  · have e : box1 (mvPa false a b p) = ⟨p.x0 + a, p.y0 + b, p.x1 + a, p.y1 + b⟩ := by
      simp only [box1, mvPa, mvP, if_false, Bool.false_eq_true, Box.mk.injEq]; omega
    rw [e]
    unfold InBox mvQ
    simp only [if_false, Bool.false_eq_true, Rat.intCast_add]
    constructor
    · rintro ⟨h1, h2, h3, h4⟩; exact ⟨by grind, by grind, by grind, by grind⟩
    · rintro ⟨h1, h2, h3, h4⟩; exact ⟨by grind, by grind, by grind, by grind⟩
  · have e : box1 (mvPa true a b p) = ⟨-p.y1 + a, p.x0 + b, -p.y0 + a, p.x1 + b⟩ := by
      simp only [box1, mvPa, mvP, if_true, Box.mk.injEq]; omega
    rw [e]
    unfold InBox mvQ
    simp only [if_true, Rat.intCast_add, Rat.intCast_neg]
    constructor
    · rintro ⟨h1, h2, h3, h4⟩; exact ⟨by grind, by grind, by grind, by grind⟩
    · rintro ⟨h1, h2, h3, h4⟩; exact ⟨by grind, by grind, by grind, by grind⟩
/-- Two areas that are alike but for a motion have the same answers. -/
theorem mv_area {K K' : Pa → Int} {F F' : Nat → Pt → Prop} {n : Nat} {t : Bool} {a b : Int} (h : Area K F n) (h' : Area K' F' n) (g : ∀ k, k < n → ∀ q, F' k (mvQ t a b q) ↔ F k q) {p : Pa} (hp : roughB p = false) (hp' : roughB (mvPa t a b p) = false) : K' (mvPa t a b p) = K p := by
  refine Int.le_antisymm ?_ ?_
  · refine h'.le2 h hp' hp (mvI t a b) (fun q hq => ?_) (fun q hq => ⟨mvQ t a b q, (mv_box hp q).2 hq, ?_⟩) fun k hk => ⟨k, hk, fun q hq => ?_⟩
    · rw [← mv_box (t := t) (a := a) (b := b) hp, mv_inv]; exact hq
    · cases q
      cases t
      · simp only [mvQ, mvI, Pt.mk.injEq, if_false, Bool.false_eq_true]; constructor <;> grind
      · simp only [mvQ, mvI, Pt.mk.injEq, if_true]; constructor <;> grind
    · rw [← g k hk, mv_inv]; exact hq
  · exact h.le2 h' hp hp' (mvQ t a b) (fun q hq => (mv_box hp q).2 hq) (fun q hq => ⟨mvI t a b q, by rw [← mv_box (t := t) (a := a) (b := b) hp, mv_inv]; exact hq, mv_inv ..⟩) fun k hk => ⟨k, hk, fun q hq => (g k hk q).2 hq⟩

theorem mv_onK {t : Bool} {a b : Int} {r : Rd} {k : Nat} (hk : k + 1 < r.pts.length) (q : Pt) : OnK (mvR t a b r) k (mvQ t a b q) ↔ OnK r k q := by
  unfold OnK pcA pcB mvR
  simp only
  rw [map_getD' (mvP t a b) (d := (0, 0)) (by omega : k < r.pts.length), map_getD' (mvP t a b) (d := (0, 0)) hk, mv_dbl, mv_dbl, mv_toP, mv_toP, mv_two, mv_near]
theorem mv_onZ {t : Bool} {a b : Int} (r : Rd) (x y : Int) : onZ (mvR t a b r) (mvP t a b (x, y)).1 (mvP t a b (x, y)).2 = onZ r x y := by
  have e : (mvR t a b r).pts.length = r.pts.length := by simp [mvR]
  rw [Bool.eq_iff_iff, on_iff, on_iff, e]
  have e2 : toP ((mvP t a b (x, y)).1, (mvP t a b (x, y)).2) = mvQ t a b (toP (x, y)) := mv_toP t a b (x, y)
  rw [e2]
  constructor
  · rintro ⟨k, hk, h⟩; exact ⟨k, hk, (mv_onK (by omega) _).1 h⟩
  · rintro ⟨k, hk, h⟩; exact ⟨k, hk, (mv_onK (by omega) _).2 h⟩
theorem mv_at {t : Bool} {a b : Int} {c : Cl} {x : Tr} (hc : ClOk c) (hx : TrOk x) (hc' : ClOk (mvC t a b c)) (hx' : TrOk (mvT t a b x)) (q : Pt) : ShadP (castC (mvC t a b c) (mvT t a b x)) (mvQ t a b q) ↔ ShadP (castC c x) q := by
  have h1 : ∀ s, atR (castC (mvC t a b c) (mvT t a b x)) (mvQ t a b q) s = mvQ t (c.h * a) (c.h * b) (atR (castC c x) q s) := fun s => by
    rw [castC_eq hc hx, castC_eq hc' hx']
    cases t
    · simp only [atR, mvC, mvT, mvP, mvQ, if_false, Bool.false_eq_true, Pt.mk.injEq, Rat.intCast_add, Rat.intCast_mul]; constructor <;> grind
    · simp only [atR, mvC, mvT, mvP, mvQ, if_true, Pt.mk.injEq, Rat.intCast_add, Rat.intCast_mul, Rat.intCast_neg]; constructor <;> grind
  have h2 : (⟨((castC (mvC t a b c) (mvT t a b x)).mx : Rat), ((castC (mvC t a b c) (mvT t a b x)).my : Rat)⟩ : Pt) = mvQ t (c.h * a) (c.h * b) ⟨((castC c x).mx : Rat), ((castC c x).my : Rat)⟩ := by
    rw [castC_eq hc hx, castC_eq hc' hx']
    cases t
    · simp only [mvC, mvT, mvP, mvQ, if_false, Bool.false_eq_true, Pt.mk.injEq, Rat.intCast_add, Rat.intCast_mul]; constructor <;> grind
    · simp only [mvC, mvT, mvP, mvQ, if_true, Pt.mk.injEq, Rat.intCast_add, Rat.intCast_mul, Rat.intCast_neg]; constructor <;> grind
  have h3 : (castC (mvC t a b c) (mvT t a b x)).n0 = (castC c x).n0 ∧ (castC (mvC t a b c) (mvT t a b x)).n1 = (castC c x).n1 ∧ (castC (mvC t a b c) (mvT t a b x)).r = (castC c x).r := by
    rw [castC_eq hc hx, castC_eq hc' hx']
    exact ⟨rfl, rfl, rfl⟩
  unfold ShadP
  rw [h3.1, h3.2.1, h3.2.2]
  constructor
  · rintro ⟨s, s0, s1, hd⟩; exact ⟨s, s0, s1, by rw [h1, h2, mv_dst] at hd; exact hd⟩
  · rintro ⟨s, s0, s1, hd⟩; exact ⟨s, s0, s1, by rw [h1, h2, mv_dst]; exact hd⟩

variable {t : Bool} {a b : Int} {s : Sc}
theorem mv_err (hs : goodE s = 0) (hu : goodE (mvS t a b s) = 0) (i : Int) (n : Nat) (q : Bool) : errS (mvS t a b s) i n q = errS s i n q := Grw.err hs hu i n q
theorem mv_road (i : Nat) (h : i < s.roads.length) : (mvS t a b s).roads.getD i default = mvR t a b (s.roads.getD i default) := map_getD' _ h
theorem mv_tree (i : Nat) (h : i < s.trees.length) : (mvS t a b s).trees.getD i default = mvT t a b (s.trees.getD i default) := map_getD' _ h
theorem mv_col (i : Nat) (h : i < s.cols.length) : (mvS t a b s).cols.getD i default = mvC t a b (s.cols.getD i default) := map_getD' _ h
theorem mv_front (i : Nat) (h : i < s.fronts.length) : (mvS t a b s).fronts.getD i default = mvF t a b (s.fronts.getD i default) := map_getD' _ h
/-- Where the moved scene has no error, the two have the same answer. -/
theorem mv_onS (hs : goodE s = 0) (hu : goodE (mvS t a b s) = 0) {i x y : Int} (hxy : wildB [x, y] = false) (h : (onS (mvS t a b s) i (mvP t a b (x, y)).1 (mvP t a b (x, y)).2).2 = 0) :
    onS (mvS t a b s) i (mvP t a b (x, y)).1 (mvP t a b (x, y)).2 = onS s i x y := by
  have e : (mvS t a b s).roads.length = s.roads.length := by simp [mvS]
  unfold onS at h ⊢
  rw [e, mv_err hs hu] at h ⊢
  by_cases h0 : (errS s i s.roads.length (wildB [(mvP t a b (x, y)).1, (mvP t a b (x, y)).2]) == 0) = true
  · obtain ⟨h1, h2⟩ := err_idx (eq_of_beq h0)
    obtain ⟨_, i0, i1⟩ := idxE_zero h1
    have e3 : errS s i s.roads.length (wildB [x, y]) = 0 := by unfold errS; rw [h1, hxy]; rfl
    rw [if_pos h0, e3, if_pos (by rfl : ((0 : Int) == 0) = true), mv_road i.toNat (by omega), mv_onZ]
  · rw [if_neg h0] at h
    exact absurd (by rw [show errS s i s.roads.length _ = 0 from h]; rfl) h0
theorem mv_meetsS (hs : goodE s = 0) (hu : goodE (mvS t a b s) = 0) {i : Int} {p : Pa} (hp : roughB p = false) (h : (meetsS (mvS t a b s) i (mvPa t a b p)).2 = 0) : meetsS (mvS t a b s) i (mvPa t a b p) = meetsS s i p := by
  have e : (mvS t a b s).roads.length = s.roads.length := by simp [mvS]
  unfold meetsS at h ⊢
  rw [e, mv_err hs hu] at h ⊢
  by_cases h0 : (errS s i s.roads.length (roughB (mvPa t a b p)) == 0) = true
  · obtain ⟨h1, h2⟩ := err_idx (eq_of_beq h0)
    obtain ⟨_, i0, i1⟩ := idxE_zero h1
    have e3 : errS s i s.roads.length (roughB p) = 0 := by unfold errS; rw [h1, hp]; rfl
    have k1 := (good_ok hs).rd i.toNat (by omega)
    have k2 := (good_ok hu).rd i.toNat (by rw [e]; omega)
    rw [mv_road i.toNat (by omega)] at k2
    rw [if_pos h0, e3, if_pos (by rfl : ((0 : Int) == 0) = true), mv_road i.toNat (by omega), meetsZ_eq k1 (rough_ok hp).2, meetsZ_eq k2 (rough_ok h2).2]
    have a2 := meets_area k2
    have e4 : (mvR t a b (s.roads.getD i.toNat default)).pts.length = (s.roads.getD i.toNat default).pts.length := by simp [mvR]
    rw [e4] at a2
    rw [mv_area (meets_area k1) a2 (fun k hk q => mv_onK (by omega) q) hp h2]
  · rw [if_neg h0] at h
    exact absurd (by rw [show errS s i s.roads.length _ = 0 from h]; rfl) h0
theorem mv_colOf {i : Int} (h0 : 0 ≤ i) (h1 : i < s.cols.length) : colOf (mvS t a b s) i = mvC t a b (colOf s i) := mv_col i.toNat (by omega)
theorem mv_shadeS (hs : goodE s = 0) (hu : goodE (mvS t a b s) = 0) {i : Int} {p : Pa} (hp : roughB p = false) (h : (shadeS (mvS t a b s) i (mvPa t a b p)).2 = 0) : shadeS (mvS t a b s) i (mvPa t a b p) = shadeS s i p := by
  have e : (mvS t a b s).cols.length = s.cols.length := by simp [mvS]
  unfold shadeS at h ⊢
  rw [e, mv_err hs hu] at h ⊢
  by_cases h0 : (errS s i s.cols.length (roughB (mvPa t a b p)) == 0) = true
  · obtain ⟨h1, h2⟩ := err_idx (eq_of_beq h0)
    obtain ⟨_, i0, i1⟩ := idxE_zero h1
    have e3 : errS s i s.cols.length (roughB p) = 0 := by unfold errS; rw [h1, hp]; rfl
    have ok := good_ok hs
    have ok' := good_ok hu
    have hc := ok.col i0 i1
    have hc' := ok'.col i0 (by rw [e]; exact i1)
    rw [mv_colOf i0 i1] at hc'
    have el : (mvS t a b s).trees.length = s.trees.length := by simp [mvS]
    rw [if_pos h0, e3, if_pos (by rfl : ((0 : Int) == 0) = true), mv_colOf i0 i1]
    have a2 := shade_area hc' ok'.tr
    rw [el] at a2
    rw [mv_area (shade_area hc ok.tr) a2 (fun k hk q => ?_) hp h2]
    unfold ShadK
    have hx' := ok'.tr k (by rw [el]; exact hk)
    rw [mv_tree k hk] at hx' ⊢
    rw [mv_at hc (ok.tr k hk) hc' hx']
    rfl
  · rw [if_neg h0] at h
    exact absurd (by rw [show errS s i s.cols.length _ = 0 from h]; rfl) h0
theorem idx_map {α β : Type} (p : β → Bool) (f : α → β) (l : List α) : idx p (l.map f) = idx (fun x => p (f x)) l := by
  unfold idx; rw [List.findIdx?_map]; rfl
theorem mv_shadedS (hs : goodE s = 0) (hu : goodE (mvS t a b s) = 0) {i x y : Int} (hxy : wildB [x, y] = false) (h : (shadedS (mvS t a b s) i (mvP t a b (x, y)).1 (mvP t a b (x, y)).2).2 = 0) :
    shadedS (mvS t a b s) i (mvP t a b (x, y)).1 (mvP t a b (x, y)).2 = shadedS s i x y := by
  have e : (mvS t a b s).cols.length = s.cols.length := by simp [mvS]
  unfold shadedS at h ⊢
  rw [e, mv_err hs hu] at h ⊢
  by_cases h0 : (errS s i s.cols.length (wildB [(mvP t a b (x, y)).1, (mvP t a b (x, y)).2]) == 0) = true
  · obtain ⟨h1, h2⟩ := err_idx (eq_of_beq h0)
    obtain ⟨_, i0, i1⟩ := idxE_zero h1
    have e3 : errS s i s.cols.length (wildB [x, y]) = 0 := by unfold errS; rw [h1, hxy]; rfl
    have ok := good_ok hs
    have ok' := good_ok hu
    have hc := ok.col i0 i1
    have hc' := ok'.col i0 (by rw [e]; exact i1)
    rw [mv_colOf i0 i1] at hc'
    rw [if_pos h0, e3, if_pos (by rfl : ((0 : Int) == 0) = true), mv_colOf i0 i1, show (mvS t a b s).trees = s.trees.map (mvT t a b) from rfl, idx_map]
    rw [idx_congr (q := fun x_1 => shadT (colOf s i) x_1 (x, y)) fun w hw => ?_]
    have hw' : TrOk (mvT t a b w) := mem_tree ok' (List.mem_map.2 ⟨w, hw, rfl⟩)
    rw [Bool.eq_iff_iff, shadT_iff hc' hw', shadT_iff hc (mem_tree ok hw)]
    have e2 : toP ((mvP t a b (x, y)).1, (mvP t a b (x, y)).2) = mvQ t a b (toP (x, y)) := mv_toP t a b (x, y)
    rw [e2, mv_at hc (mem_tree ok hw) hc' hw']
    rfl
  · rw [if_neg h0] at h
    exact absurd (by rw [show errS s i s.cols.length _ = 0 from h]; rfl) h0
end Go.Proofs.Am

/- Scenes that are turned and moved, walked. -/
namespace Go.Proofs.Am
open Go Go.Proofs.Geo
set_option maxRecDepth 100000

noncomputable abbrev fsMv : List (Nat × Func) := [(29, Tryz.f29), (77, Tryz.f77), (28, Tryz.f28), (8, Tryz.f8)]
theorem cMv : CtxOK Tryz.prog (ctx [] fsMv) := ctx_ok (show FsOK Tryz.prog fsMv from ⟨Tryz.func29, Tryz.call29, Tryz.func77, Tryz.call77, Tryz.func28, Tryz.call28, Tryz.func8, Tryz.call8, trivial⟩) rfl
abbrev moA (t : Bool) (a b : Int) : AV := .agg [B t, I a, I b]
def mvW (t : Bool) (a b : Int) (p : Int × Int) : Int × Int := if t then (w64 (w64 (0 - p.2) + a), w64 (p.1 + b)) else (w64 (p.1 + a), w64 (p.2 + b))
theorem mvW_eq {t : Bool} {a b : Int} {p : Int × Int} (ha : Bd 100000 a) (hb : Bd 100000 b) (hp : BdP 100000 p) : mvW t a b p = mvP t a b p := by
  obtain ⟨a1, a2⟩ := ha
  obtain ⟨b1, b2⟩ := hb
  obtain ⟨⟨p1, p2⟩, p3, p4⟩ := hp
  unfold mvW mvP
  cases t
  · simp only [if_false, Bool.false_eq_true]; rw [w64_id (by omega), w64_id (by omega)]
  · simp only [if_true]; rw [w64_id (x := 0 - p.2) (by omega), w64_id (by omega), w64_id (by omega), Int.zero_sub]
theorem moved_fun (t : Bool) (a b x y : Int) : Fun Tryz.prog 29 [moA t a b, I x, I y] (.tup [I (mvW t a b (x, y)).1, I (mvW t a b (x, y)).2]) := by
  refine Fun.of_run cMv rfl ?_
  cases t
  · refine Rn.no 1000 rfl rfl ?_
    refine Rn.chk 1000 rfl (by kernel_rfl) ?_
    exact Rn.ret 1000 rfl rfl rfl
  · refine Rn.yes 1000 rfl rfl ?_
    refine Rn.chk 1000 rfl (by kernel_rfl) ?_
    exact Rn.ret 1000 rfl rfl rfl
theorem pair_fun (t : Bool) (a b : Int) (p : Int × Int) : Fun Tryz.prog 77 [moA t a b, .agg (ptC p)] (.agg (ptC (mvW t a b p))) := by
  refine Fun.of_run cMv rfl ?_
  refine Rn.call 1000 rfl _ (moved_fun t a b p.1 p.2) ?_
  exact Rn.ret 1000 rfl rfl rfl

theorem app_row {α : Type} (f : α → List AV) (d : α) {l : List α} {n : Nat} {h : Nat → List AV} (hh : h 0 = f (l.getD n d)) : ∀ i, i < n + 1 → f (l.getD i d) = appGet n (fun j => f (l.getD j d)) h i := fun i hi => by
  unfold appGet
  by_cases e : i < n
  · have : Nat.blt i n = true := by rw [Nat.blt_eq]; exact e
    rw [this]
  · have hb : Nat.blt i n = false := by
      cases hq : Nat.blt i n with
      | false => rfl
      | true => rw [Nat.blt_eq] at hq; exact absurd hq e
    have ei : i = n := by omega
    rw [hb]
    simp only
    rw [ei, Nat.sub_self, hh]
abbrev NL : AV := .v (.slice none 0 0)
abbrev mo3 (t : Bool) (a b : Int) : List AV := [B t, I a, I b]
abbrev s4 (s : Sc) : List AV := [rdsA s.roads, trsA s.trees, ftsA s.fronts, clsA s.cols]

theorem scene_fun (s : Sc) (ok : ScOk s) (t : Bool) (a b : Int) (ha : Bd 100000 a) (hb : Bd 100000 b) : Fun Tryz.prog 28 [scA s, moA t a b] (scA (mvS t a b s)) := by
  have nr := ok.nr
  have nt := ok.nt
  have nf := ok.nf
  have nc := ok.nc
  refine Fun.of_run cMv rfl ?_
  refine Rn.stop 1000 rfl ?_
  refine Rn.nilRow 4 (fun j => rdC ((s.roads.map (mvR t a b)).getD j default)) 54 _ _ .refl (.set (c := 3) (x' := .flat [.osl 4 0, NL, NL, NL] 27) rfl (.flat ⟨.nil, .same, .same, .same, trivial⟩) .refl) ?_
  refine Rn.loop2 (fun _ => []) (fun n : Nat => [(2, .ptr 0 0), (3, .ptr 1 0), (4, .ptr 2 0), (5, .ptr 3 0), (6, I (n : Int))])
    (fun n => [(0, .flat (s4 s) 27), (1, .flat (mo3 t a b) 60), (2, .flat [NL, NL, NL, NL] 27), (3, .flat [.osl 4 n, NL, NL, NL] 27), (4, .row n 4 (fun j => rdC ((s.roads.map (mvR t a b)).getD j default)) 54 n)]) 5
    (fun n => n ≤ s.roads.length) (fun n => s.roads.length - n) 0 (Nat.zero_le _)
    ⟨⟨rfl, rfl, rfl, rfl, rfl, .cons rfl (.refl rfl) (.cons rfl (.refl rfl) (.cons rfl (.refl rfl) (.cons rfl (.refl rfl) (.cons rfl (.int _ _) .nil)))), rfl⟩, trivial,
      .cons rfl (.flat' rfl rfl) (.cons rfl (.flat' rfl rfl) (.cons rfl (.flat' rfl rfl) (.cons rfl (.flat' rfl rfl) (.cons rfl (.row rfl fun i hi => rfl) .nil))))⟩ ?_
  rintro n hn ih
  refine Rn.ite (b := decide ((n : Int) < (s.roads.length : Int))) 1000 rfl (fun h => ?_) (fun h => ?_)
  · have h : n < s.roads.length := by have := of_decide_eq_true h; omega
    have in1 : inB (n : Int) s.roads.length = true := by simp only [inB, Bool.and_eq_true, decide_eq_true_eq]; omega
    have hr := ok.rd n h
    refine Rn.asr 1000 rfl in1 ?_
    refine Rn.stop 1000 rfl ?_
    refine Rn.nilRow 2 (fun j => ptC (((s.roads.getD n default).pts.map (mvP t a b)).getD j (0, 0))) 72 _ _ .refl
      (.set (c := 5) (x' := .flat [S (s.roads.getD n default).name, I (s.roads.getD n default).kind, .osl 6 0, I (s.roads.getD n default).width] 54) rfl (.flat ⟨.same, .same, .nil, .same, trivial⟩) .refl) ?_
    refine Rn.loop2 (fun _ => []) (fun k : Nat => [(2, .ptr 0 0), (3, .ptr 1 0), (4, .ptr 2 0), (5, .ptr 3 0), (6, I (n : Int)), (7, .ptr 5 0), (8, I (k : Int))])
      (fun k => [(0, .flat (s4 s) 27), (1, .flat (mo3 t a b) 60), (2, .flat [NL, NL, NL, NL] 27), (3, .flat [.osl 4 n, NL, NL, NL] 27), (4, .row n 4 (fun j => rdC ((s.roads.map (mvR t a b)).getD j default)) 54 n),
        (5, .flat [S (s.roads.getD n default).name, I (s.roads.getD n default).kind, .osl 6 k, I (s.roads.getD n default).width] 54), (6, .row k 2 (fun j => ptC (((s.roads.getD n default).pts.map (mvP t a b)).getD j (0, 0))) 72 k)]) 7
      (fun k => k ≤ (s.roads.getD n default).pts.length) (fun k => (s.roads.getD n default).pts.length - k) 0 (Nat.zero_le _)
      ⟨⟨rfl, rfl, rfl, rfl, rfl, .cons rfl (.refl rfl) (.cons rfl (.refl rfl) (.cons rfl (.refl rfl) (.cons rfl (.refl rfl) (.cons rfl (.refl rfl) (.cons rfl (.refl rfl) (.cons rfl (.int _ _) .nil)))))), rfl⟩, trivial,
        .cons rfl (.flat' rfl rfl) (.cons rfl (.flat' rfl rfl) (.cons rfl (.flat' rfl rfl) (.cons rfl (.flat' rfl rfl) (.cons rfl (.row rfl fun i hi => rfl) (.cons rfl (.flat' rfl rfl) (.cons rfl (.row rfl fun i hi => rfl) .nil))))))⟩ ?_
    rintro k hk ih2
    have hhi := hr.hi
    refine Rn.asr 1000 rfl in1 ?_
    refine Rn.ite (b := decide ((k : Int) < ((s.roads.getD n default).pts.length : Int))) 1000 rfl (fun h' => ?_) (fun h' => ?_)
    · have h' : k < (s.roads.getD n default).pts.length := by have := of_decide_eq_true h'; omega
      have in2 : inB (k : Int) (s.roads.getD n default).pts.length = true := by simp only [inB, Bool.and_eq_true, decide_eq_true_eq]; omega
      have kp : Fun Tryz.prog 77 [moA t a b, .agg (ptC ((s.roads.getD n default).pts.getD k (0, 0)))] (.agg (ptC (mvP t a b ((s.roads.getD n default).pts.getD k (0, 0))))) :=
        (pair_fun t a b _).as (by rw [mvW_eq ha hb (hr.get h')])
      refine Rn.asr 1000 rfl in1 ?_
      refine Rn.asr 1000 rfl in2 ?_
      refine Rn.call 1000 rfl _ kp ?_
      refine Rn.asr 1000 rfl (Nat.beq_refl k) ?_
      refine Rn.asr (b := Nat.ble (k + 1) 4194304) 1000 rfl (Nat.ble_eq_true_of_le (by omega)) ?_
      refine Rn.chk 1000 rfl (by kernel_rfl) ?_
      refine Rn.stop 1000 rfl ?_
      refine Rn.weaken trivial ?_ (ih2 (k + 1) (by omega) h')
      exact ⟨⟨rfl, rfl, rfl, rfl, rfl, .cons rfl (.refl rfl) (.cons rfl (.refl rfl) (.cons rfl (.refl rfl) (.cons rfl (.refl rfl) (.cons rfl (.refl rfl) (.cons rfl (.refl rfl) (.cons rfl (.eq rfl (congrArg I (w64_nat (m := 8) (by omega) (by omega)))) .nil)))))), rfl⟩, trivial,
        .cons rfl (.flat' rfl rfl) (.cons rfl (.flat' rfl rfl) (.cons rfl (.flat' rfl rfl) (.cons rfl (.flat' rfl rfl) (.cons rfl (.row rfl fun i hi => rfl) (.cons rfl (.flat' rfl rfl) (.cons rfl (.row_eq rfl rfl rfl (app_row ptC (0, 0) (by rw [map_getD' _ (d := (0, 0)) h']; rfl))) .nil))))))⟩
    · have h' : k = (s.roads.getD n default).pts.length := by have := of_decide_eq_false h'; omega
      subst h'
      refine Rn.freeze [6] _ _ .refl (FzX.hp (.set (c := 5) (x' := .flat [S (s.roads.getD n default).name, I (s.roads.getD n default).kind, ptsA ((s.roads.getD n default).pts.map (mvP t a b)), I (s.roads.getD n default).width] 54) rfl
        (.flat ⟨.same, .same, .rowTo rfl rfl (by simp) fun i hi => rfl, .same, trivial⟩) .refl)) ?_
      refine Rn.asr 1000 rfl (Nat.beq_refl n) ?_
      refine Rn.asr (b := Nat.ble (n + 1) 4194304) 1000 rfl (Nat.ble_eq_true_of_le (by omega)) ?_
      refine Rn.stop 1000 rfl ?_
      refine Rn.weaken trivial ?_ (ih (n + 1) (by omega) h)
      exact ⟨⟨rfl, rfl, rfl, rfl, rfl, .cons rfl (.refl rfl) (.cons rfl (.refl rfl) (.cons rfl (.refl rfl) (.cons rfl (.refl rfl) (.cons rfl (.eq rfl (congrArg I (w64_nat (m := 9) (by omega) (by omega)))) .nil)))), rfl⟩, trivial,
        .cons rfl (.flat' rfl rfl) (.cons rfl (.flat' rfl rfl) (.cons rfl (.flat' rfl rfl) (.cons rfl (.flat' rfl rfl) (.cons rfl (.row_eq rfl rfl rfl (app_row rdC default (by rw [map_getD' _ (d := default) h]; rfl))) .nil))))⟩
  have h : n = s.roads.length := by have := of_decide_eq_false h; omega
  subst h
  clear ih hn
  refine Rn.freeze [4] _ _ .refl (FzX.hp (.set (c := 3) (x' := .flat [rdsA (s.roads.map (mvR t a b)), NL, NL, NL] 27) rfl (.flat ⟨.rowTo rfl rfl (by simp) fun i hi => rfl, .same, .same, .same, trivial⟩) .refl)) ?_
  refine Rn.stop 1000 rfl ?_
  refine Rn.nilRow 5 (fun j => trC ((s.trees.map (mvT t a b)).getD j default)) 57 _ _ .refl (.set (c := 3) (x' := .flat [rdsA (s.roads.map (mvR t a b)), .osl 5 0, NL, NL] 27) rfl (.flat ⟨.same, .nil, .same, .same, trivial⟩) .refl) ?_
  refine Rn.loop2 (fun _ => []) (fun n : Nat => [(2, .ptr 0 0), (3, .ptr 1 0), (4, .ptr 2 0), (5, .ptr 3 0), (9, I (n : Int))])
    (fun n => [(0, .flat (s4 s) 27), (1, .flat (mo3 t a b) 60), (2, .flat [NL, NL, NL, NL] 27), (3, .flat [rdsA (s.roads.map (mvR t a b)), .osl 5 n, NL, NL] 27), (5, .row n 5 (fun j => trC ((s.trees.map (mvT t a b)).getD j default)) 57 n)]) 6
    (fun n => n ≤ s.trees.length) (fun n => s.trees.length - n) 0 (Nat.zero_le _)
    ⟨⟨rfl, rfl, rfl, rfl, rfl, .cons rfl (.refl rfl) (.cons rfl (.refl rfl) (.cons rfl (.refl rfl) (.cons rfl (.refl rfl) (.cons rfl (.int _ _) .nil)))), rfl⟩, trivial,
      .cons rfl (.flat' rfl rfl) (.cons rfl (.flat' rfl rfl) (.cons rfl (.flat' rfl rfl) (.cons rfl (.flat' rfl rfl) (.cons rfl (.row rfl fun i hi => rfl) .nil))))⟩ ?_
  rintro n hn ih
  refine Rn.ite (b := decide ((n : Int) < (s.trees.length : Int))) 1000 rfl (fun h => ?_) (fun h => ?_)
  · have h : n < s.trees.length := by have := of_decide_eq_true h; omega
    have in1 : inB (n : Int) s.trees.length = true := by simp only [inB, Bool.and_eq_true, decide_eq_true_eq]; omega
    have hx := ok.tr n h
    have km : Fun Tryz.prog 29 [moA t a b, I (s.trees.getD n default).x, I (s.trees.getD n default).y] (.tup [I (mvP t a b ((s.trees.getD n default).x, (s.trees.getD n default).y)).1, I (mvP t a b ((s.trees.getD n default).x, (s.trees.getD n default).y)).2]) :=
      (moved_fun t a b _ _).as (by rw [mvW_eq ha hb ⟨hx.x, hx.y⟩])
    refine Rn.asr 1000 rfl in1 ?_
    refine Rn.call 1000 rfl _ km ?_
    refine Rn.asr 1000 rfl (Nat.beq_refl n) ?_
    refine Rn.asr (b := Nat.ble (n + 1) 4194304) 1000 rfl (Nat.ble_eq_true_of_le (by omega)) ?_
    refine Rn.stop 1000 rfl ?_
    refine Rn.weaken trivial ?_ (ih (n + 1) (by omega) h)
    exact ⟨⟨rfl, rfl, rfl, rfl, rfl, .cons rfl (.refl rfl) (.cons rfl (.refl rfl) (.cons rfl (.refl rfl) (.cons rfl (.refl rfl) (.cons rfl (.eq rfl (congrArg I (w64_nat (m := 13) (by omega) (by omega)))) .nil)))), rfl⟩, trivial,
      .cons rfl (.flat' rfl rfl) (.cons rfl (.flat' rfl rfl) (.cons rfl (.flat' rfl rfl) (.cons rfl (.flat' rfl rfl) (.cons rfl (.row_eq rfl rfl rfl (app_row trC default (by rw [map_getD' _ (d := default) h]; rfl))) .nil))))⟩
  have h : n = s.trees.length := by have := of_decide_eq_false h; omega
  subst h
  clear ih hn
  refine Rn.freeze [5] _ _ .refl (FzX.hp (.set (c := 3) (x' := .flat [rdsA (s.roads.map (mvR t a b)), trsA (s.trees.map (mvT t a b)), NL, NL] 27) rfl (.flat ⟨.same, .rowTo rfl rfl (by simp) fun i hi => rfl, .same, .same, trivial⟩) .refl)) ?_
  refine Rn.stop 1000 rfl ?_
  refine Rn.nilRow 5 (fun j => ftC ((s.fronts.map (mvF t a b)).getD j default)) 123 _ _ .refl (.set (c := 3) (x' := .flat [rdsA (s.roads.map (mvR t a b)), trsA (s.trees.map (mvT t a b)), .osl 6 0, NL] 27) rfl (.flat ⟨.same, .same, .nil, .same, trivial⟩) .refl) ?_
  refine Rn.loop2 (fun _ => []) (fun n : Nat => [(2, .ptr 0 0), (3, .ptr 1 0), (4, .ptr 2 0), (5, .ptr 3 0), (11, I (n : Int))])
    (fun n => [(0, .flat (s4 s) 27), (1, .flat (mo3 t a b) 60), (2, .flat [NL, NL, NL, NL] 27), (3, .flat [rdsA (s.roads.map (mvR t a b)), trsA (s.trees.map (mvT t a b)), .osl 6 n, NL] 27), (6, .row n 5 (fun j => ftC ((s.fronts.map (mvF t a b)).getD j default)) 123 n)]) 7
    (fun n => n ≤ s.fronts.length) (fun n => s.fronts.length - n) 0 (Nat.zero_le _)
    ⟨⟨rfl, rfl, rfl, rfl, rfl, .cons rfl (.refl rfl) (.cons rfl (.refl rfl) (.cons rfl (.refl rfl) (.cons rfl (.refl rfl) (.cons rfl (.int _ _) .nil)))), rfl⟩, trivial,
      .cons rfl (.flat' rfl rfl) (.cons rfl (.flat' rfl rfl) (.cons rfl (.flat' rfl rfl) (.cons rfl (.flat' rfl rfl) (.cons rfl (.row rfl fun i hi => rfl) .nil))))⟩ ?_
  rintro n hn ih
  refine Rn.ite (b := decide ((n : Int) < (s.fronts.length : Int))) 1000 rfl (fun h => ?_) (fun h => ?_)
  · have h : n < s.fronts.length := by have := of_decide_eq_true h; omega
    have in1 : inB (n : Int) s.fronts.length = true := by simp only [inB, Bool.and_eq_true, decide_eq_true_eq]; omega
    have hx := ok.ft n h
    have km : Fun Tryz.prog 77 [moA t a b, .agg (ptC ((s.fronts.getD n default).ax, (s.fronts.getD n default).ay))] (.agg (ptC (mvP t a b ((s.fronts.getD n default).ax, (s.fronts.getD n default).ay)))) :=
      (pair_fun t a b _).as (by rw [mvW_eq ha hb ⟨hx.ax, hx.ay⟩])
    have km2 : Fun Tryz.prog 77 [moA t a b, .agg (ptC ((s.fronts.getD n default).bx, (s.fronts.getD n default).bY))] (.agg (ptC (mvP t a b ((s.fronts.getD n default).bx, (s.fronts.getD n default).bY)))) :=
      (pair_fun t a b _).as (by rw [mvW_eq ha hb ⟨hx.bx, hx.bY⟩])
    refine Rn.asr 1000 rfl in1 ?_
    refine Rn.call 1000 rfl _ km ?_
    refine Rn.call 1000 rfl _ km2 ?_
    refine Rn.chk 1000 rfl (by kernel_rfl) ?_
    refine Rn.asr 1000 rfl (Nat.beq_refl n) ?_
    refine Rn.asr (b := Nat.ble (n + 1) 4194304) 1000 rfl (Nat.ble_eq_true_of_le (by omega)) ?_
    refine Rn.stop 1000 rfl ?_
    refine Rn.weaken trivial ?_ (ih (n + 1) (by omega) h)
    exact ⟨⟨rfl, rfl, rfl, rfl, rfl, .cons rfl (.refl rfl) (.cons rfl (.refl rfl) (.cons rfl (.refl rfl) (.cons rfl (.refl rfl) (.cons rfl (.eq rfl (congrArg I (w64_nat (m := 9) (by omega) (by omega)))) .nil)))), rfl⟩, trivial,
      .cons rfl (.flat' rfl rfl) (.cons rfl (.flat' rfl rfl) (.cons rfl (.flat' rfl rfl) (.cons rfl (.flat' rfl rfl) (.cons rfl (.row_eq rfl rfl rfl (app_row ftC default (by rw [map_getD' _ (d := default) h]; rfl))) .nil))))⟩
  have h : n = s.fronts.length := by have := of_decide_eq_false h; omega
  subst h
  clear ih hn
  refine Rn.freeze [6] _ _ .refl (FzX.hp (.set (c := 3) (x' := .flat [rdsA (s.roads.map (mvR t a b)), trsA (s.trees.map (mvT t a b)), ftsA (s.fronts.map (mvF t a b)), NL] 27) rfl (.flat ⟨.same, .same, .rowTo rfl rfl (by simp) fun i hi => rfl, .same, trivial⟩) .refl)) ?_
  refine Rn.stop 1000 rfl ?_
  refine Rn.nilRow 6 (fun j => clC ((s.cols.map (mvC t a b)).getD j default)) 100 _ _ .refl (.set (c := 3) (x' := .flat [rdsA (s.roads.map (mvR t a b)), trsA (s.trees.map (mvT t a b)), ftsA (s.fronts.map (mvF t a b)), .osl 7 0] 27) rfl (.flat ⟨.same, .same, .same, .nil, trivial⟩) .refl) ?_
  refine Rn.loop2 (fun _ => []) (fun n : Nat => [(2, .ptr 0 0), (3, .ptr 1 0), (4, .ptr 2 0), (5, .ptr 3 0), (13, I (n : Int))])
    (fun n => [(0, .flat (s4 s) 27), (1, .flat (mo3 t a b) 60), (2, .flat [NL, NL, NL, NL] 27), (3, .flat [rdsA (s.roads.map (mvR t a b)), trsA (s.trees.map (mvT t a b)), ftsA (s.fronts.map (mvF t a b)), .osl 7 n] 27), (7, .row n 6 (fun j => clC ((s.cols.map (mvC t a b)).getD j default)) 100 n)]) 8
    (fun n => n ≤ s.cols.length) (fun n => s.cols.length - n) 0 (Nat.zero_le _)
    ⟨⟨rfl, rfl, rfl, rfl, rfl, .cons rfl (.refl rfl) (.cons rfl (.refl rfl) (.cons rfl (.refl rfl) (.cons rfl (.refl rfl) (.cons rfl (.int _ _) .nil)))), rfl⟩, trivial,
      .cons rfl (.flat' rfl rfl) (.cons rfl (.flat' rfl rfl) (.cons rfl (.flat' rfl rfl) (.cons rfl (.flat' rfl rfl) (.cons rfl (.row rfl fun i hi => rfl) .nil))))⟩ ?_
  rintro n hn ih
  refine Rn.ite (b := decide ((n : Int) < (s.cols.length : Int))) 1000 rfl (fun h => ?_) (fun h => ?_)
  · have h : n < s.cols.length := by have := of_decide_eq_true h; omega
    have in1 : inB (n : Int) s.cols.length = true := by simp only [inB, Bool.and_eq_true, decide_eq_true_eq]; omega
    have hx := ok.cl n h
    have km : Fun Tryz.prog 29 [moA t a b, I (s.cols.getD n default).x, I (s.cols.getD n default).y] (.tup [I (mvP t a b ((s.cols.getD n default).x, (s.cols.getD n default).y)).1, I (mvP t a b ((s.cols.getD n default).x, (s.cols.getD n default).y)).2]) :=
      (moved_fun t a b _ _).as (by rw [mvW_eq ha hb ⟨hx.x, hx.y⟩])
    have dx := hx.dx
    have dy := hx.dy
    have km2 : Fun Tryz.prog 29 [moA t 0 0, I (s.cols.getD n default).dx, I (s.cols.getD n default).dy] (.tup [I (mvP t 0 0 ((s.cols.getD n default).dx, (s.cols.getD n default).dy)).1, I (mvP t 0 0 ((s.cols.getD n default).dx, (s.cols.getD n default).dy)).2]) :=
      (moved_fun t 0 0 _ _).as (by rw [mvW_eq ⟨by decide, by decide⟩ ⟨by decide, by decide⟩ ⟨⟨by omega, by omega⟩, ⟨by omega, by omega⟩⟩])
    refine Rn.asr 1000 rfl in1 ?_
    refine Rn.call 1000 rfl _ km ?_
    refine Rn.call 1000 rfl _ km2 ?_
    refine Rn.asr 1000 rfl (Nat.beq_refl n) ?_
    refine Rn.asr (b := Nat.ble (n + 1) 4194304) 1000 rfl (Nat.ble_eq_true_of_le (by omega)) ?_
    refine Rn.stop 1000 rfl ?_
    refine Rn.weaken trivial ?_ (ih (n + 1) (by omega) h)
    exact ⟨⟨rfl, rfl, rfl, rfl, rfl, .cons rfl (.refl rfl) (.cons rfl (.refl rfl) (.cons rfl (.refl rfl) (.cons rfl (.refl rfl) (.cons rfl (.eq rfl (congrArg I (w64_nat (m := 25) (by omega) (by omega)))) .nil)))), rfl⟩, trivial,
      .cons rfl (.flat' rfl rfl) (.cons rfl (.flat' rfl rfl) (.cons rfl (.flat' rfl rfl) (.cons rfl (.flat' rfl rfl) (.cons rfl (.row_eq rfl rfl rfl (app_row clC default (by rw [map_getD' _ (d := default) h]; rfl))) .nil))))⟩
  have h : n = s.cols.length := by have := of_decide_eq_false h; omega
  subst h
  refine Rn.freeze [7] _ _ .refl (FzX.hp (.set (c := 3) (x' := .flat (s4 (mvS t a b s)) 27) rfl (.flat ⟨.same, .same, .same, .rowTo rfl rfl (by simp [mvS]) fun i hi => rfl, trivial⟩) .refl)) ?_
  exact Rn.ret 1000 rfl rfl rfl
end Go.Proofs.Am

/- The statement RoadMoves, walked. -/
namespace Go.Proofs.Am
open Go Go.Proofs.Geo
set_option maxRecDepth 100000

theorem mv_side (t : Bool) (a b : Int) (p q r : Int × Int) : sideZ (mvP t a b p) (mvP t a b q) (mvP t a b r) = sideZ p q r := by
  cases t
  · simp only [mvP, sideZ, if_false, Bool.false_eq_true]; grind
  · simp only [mvP, sideZ, if_true]; grind
theorem bd8 {x : Int} (h : Bd 100000 x) : Bd 100000000 x := ⟨by omega, by omega⟩
theorem face_sideZ {f : Ft} {c : Cl} (hf : FtOk f) (hc : ClOk c) : faceB f c = decide (sideZ (f.ax, f.ay) (f.bx, f.bY) (c.x, c.y) > 0) := by
  unfold faceB
  rw [sideB_eq ⟨bd8 hf.ax, bd8 hf.ay⟩ ⟨bd8 hf.bx, bd8 hf.bY⟩ ⟨bd8 hc.x, bd8 hc.y⟩]
theorem mv_facesS {t : Bool} {a b : Int} {s : Sc} (hs : goodE s = 0) (hu : goodE (mvS t a b s) = 0) (i f : Int) : facesS (mvS t a b s) i f = facesS s i f := by
  have e1 : (mvS t a b s).fronts.length = s.fronts.length := by simp [mvS]
  have e2 : (mvS t a b s).cols.length = s.cols.length := by simp [mvS]
  have e3 : ∀ n m : Nat, idx2E (mvS t a b s) f n i m = idx2E s f n i m := fun n m => by unfold idx2E; rw [Grw.idx hs hu]
  unfold facesS
  rw [e1, e2, e3]
  split
  · rename_i h
    obtain ⟨_, ⟨f0, f1⟩, i0, i1⟩ := idx2E_zero (eq_of_beq h)
    have ok := good_ok hs
    have ok' := good_ok hu
    have k1 := ok.ft f.toNat (by omega)
    have k2 := ok.col i0 i1
    have k3 := ok'.ft f.toNat (by rw [e1]; omega)
    have k4 := ok'.col i0 (by rw [e2]; exact i1)
    rw [mv_front f.toNat (by omega)] at k3
    rw [mv_colOf i0 i1] at k4 ⊢
    have e5 : ftOf (mvS t a b s) f = mvF t a b (ftOf s f) := mv_front f.toNat (by omega)
    have k3 : FtOk (mvF t a b (ftOf s f)) := k3
    have k1 : FtOk (ftOf s f) := k1
    rw [e5, face_sideZ k3 k4, face_sideZ k1 k2]
    have := mv_side t a b ((ftOf s f).ax, (ftOf s f).ay) ((ftOf s f).bx, (ftOf s f).bY) ((colOf s i).x, (colOf s i).y)
    unfold mvF mvC
    simp only
    rw [show ((mvP t a b ((ftOf s f).ax, (ftOf s f).ay)).1, (mvP t a b ((ftOf s f).ax, (ftOf s f).ay)).2) = mvP t a b ((ftOf s f).ax, (ftOf s f).ay) from rfl,
      show ((mvP t a b ((ftOf s f).bx, (ftOf s f).bY)).1, (mvP t a b ((ftOf s f).bx, (ftOf s f).bY)).2) = mvP t a b ((ftOf s f).bx, (ftOf s f).bY) from rfl,
      show ((mvP t a b ((colOf s i).x, (colOf s i).y)).1, (mvP t a b ((colOf s i).x, (colOf s i).y)).2) = mvP t a b ((colOf s i).x, (colOf s i).y) from rfl, this]
  · rfl
theorem mv_okS {t : Bool} {a b : Int} {s : Sc} (h : s.ok) : (mvS t a b s).ok := by
  obtain ⟨h1, h2, h3, h4, h5, h6, h7⟩ := h
  refine ⟨by simpa [mvS] using h1, by simpa [mvS] using h2, by simpa [mvS] using h3, by simpa [mvS] using h4, fun r hr => ?_, fun f hf => ?_, fun c hc => ?_⟩
  · obtain ⟨q, hq, rfl⟩ := List.mem_map.1 hr
    have := h5 q hq
    exact ⟨this.1, by simpa [mvR] using this.2⟩
  · obtain ⟨q, hq, rfl⟩ := List.mem_map.1 hf
    exact h6 q hq
  · obtain ⟨q, hq, rfl⟩ := List.mem_map.1 hc
    exact h7 q hq
theorem mn_min (x y : Int) : mn2 x y = min x y := by unfold mn2; split <;> omega
theorem mx_max (x y : Int) : mx2 x y = max x y := by unfold mx2; split <;> omega
theorem wild2 {x y : Int} (hx : Bd 100000 x) (hy : Bd 100000 y) : wildB [x, y] = false := by
  unfold wildB farB outB
  simp only [List.any_cons, List.any_nil, Bool.or_false, Bool.or_eq_false_iff, decide_eq_false_iff_not]
  omega

theorem roadMoves_fun (s : Sc) (hs : s.ok) (c : Sp) (t : Bool) (a b : Int) : Fun Tryz.prog 8 [scA s, spA c, moA t a b] (B true) := by
  refine Fun.of_run cMv rfl ?_
  refine Rn.call 1000 rfl _ (check_fun s hs) ?_
  have done : ∀ {x : Conf}, x.run (ctx [] fsMv) 1000 = x.run (ctx [] fsMv) 1000 := fun {x} => rfl
  refine Rn.ite (b := !(goodE s == 0)) 1000 rfl (fun h => ?_) (fun h => ?_)
  · refine Rn.call 1000 rfl _ awake_fun ?_
    exact Rn.ret 1000 rfl rfl rfl
  have g0 : goodE s = 0 := by simpa using h
  refine Rn.ite (b := decide (a < -100000)) 1000 rfl (fun h1 => ?_) (fun h1 => ?_)
  · refine Rn.call 1000 rfl _ awake_fun ?_
    exact Rn.ret 1000 rfl rfl rfl
  refine Rn.ite (b := decide (a > 100000)) 1000 rfl (fun h2 => ?_) (fun h2 => ?_)
  · refine Rn.call 1000 rfl _ awake_fun ?_
    exact Rn.ret 1000 rfl rfl rfl
  refine Rn.ite (b := decide (b < -100000)) 1000 rfl (fun h3 => ?_) (fun h3 => ?_)
  · refine Rn.call 1000 rfl _ awake_fun ?_
    exact Rn.ret 1000 rfl rfl rfl
  refine Rn.ite (b := decide (b > 100000)) 1000 rfl (fun h4 => ?_) (fun h4 => ?_)
  · refine Rn.call 1000 rfl _ awake_fun ?_
    exact Rn.ret 1000 rfl rfl rfl
  refine Rn.ite (b := decide (c.x < -100000)) 1000 rfl (fun h5 => ?_) (fun h5 => ?_)
  · refine Rn.call 1000 rfl _ awake_fun ?_
    exact Rn.ret 1000 rfl rfl rfl
  refine Rn.ite (b := decide (c.x > 100000)) 1000 rfl (fun h6 => ?_) (fun h6 => ?_)
  · refine Rn.call 1000 rfl _ awake_fun ?_
    exact Rn.ret 1000 rfl rfl rfl
  refine Rn.ite (b := decide (c.y < -100000)) 1000 rfl (fun h7 => ?_) (fun h7 => ?_)
  · refine Rn.call 1000 rfl _ awake_fun ?_
    exact Rn.ret 1000 rfl rfl rfl
  refine Rn.ite (b := decide (c.y > 100000)) 1000 rfl (fun h8 => ?_) (fun h8 => ?_)
  · refine Rn.call 1000 rfl _ awake_fun ?_
    exact Rn.ret 1000 rfl rfl rfl
  have h1 := of_decide_eq_false h1
  have h2 := of_decide_eq_false h2
  have h3 := of_decide_eq_false h3
  have h4 := of_decide_eq_false h4
  have h5 := of_decide_eq_false h5
  have h6 := of_decide_eq_false h6
  have h7 := of_decide_eq_false h7
  have h8 := of_decide_eq_false h8
  have ha : Bd 100000 a := ⟨by omega, by omega⟩
  have hb : Bd 100000 b := ⟨by omega, by omega⟩
  have hx : Bd 100000 c.x := ⟨by omega, by omega⟩
  have hy : Bd 100000 c.y := ⟨by omega, by omega⟩
  have kp := patched_fun ⟨0, c.p, 0, 0⟩
  have ks := scene_fun s (good_ok g0) t a b ha hb
  have hu := mv_okS (t := t) (a := a) (b := b) hs
  have kc := check_fun (mvS t a b s) hu
  clear h1 h2 h3 h4 h5 h6 h7 h8 h done
  have kx : Fun Tryz.prog 29 [moA t a b, I c.x, I c.y] (.tup [I (mvP t a b (c.x, c.y)).1, I (mvP t a b (c.x, c.y)).2]) := (moved_fun t a b _ _).as (by rw [mvW_eq ha hb ⟨hx, hy⟩])
  cases hp : roughB c.p with
  | true =>
    have kp' : Fun Tryz.prog 20 [inA ⟨0, c.p, 0, 0⟩] (.tup [I 0, I 0, B false]) := by
      rw [if_pos (show roughB (In.mk 0 c.p 0 0).p = true from hp)] at kp
      exact kp
    refine Rn.call 1000 rfl _ kp' ?_
    refine Rn.call 1000 rfl _ ks ?_
    refine Rn.call 1000 rfl _ kc ?_
    refine Rn.ite (b := !(goodE (mvS t a b s) == 0)) 1000 rfl (fun h => ?_) (fun h => ?_)
    · refine Rn.call 1000 rfl _ awake_fun ?_
      exact Rn.ret 1000 rfl rfl rfl
    refine Rn.yes 1000 rfl rfl ?_
    refine Rn.call 1000 rfl _ awake_fun ?_
    exact Rn.ret 1000 rfl rfl rfl
  | false =>
    obtain ⟨x1, x2, kp'⟩ : ∃ x1 x2, Fun Tryz.prog 20 [inA ⟨0, c.p, 0, 0⟩] (.tup [I x1, I x2, B true]) := by
      rw [if_neg (show ¬ roughB (In.mk 0 c.p 0 0).p = true by rw [hp]; simp)] at kp
      exact ⟨_, _, kp⟩
    obtain ⟨⟨px0, py0, px1, py1⟩, _, _⟩ := rough_iff.1 hp
    have ka : Fun Tryz.prog 29 [moA t a b, I c.p.x0, I c.p.y0] (.tup [I (mvP t a b (c.p.x0, c.p.y0)).1, I (mvP t a b (c.p.x0, c.p.y0)).2]) := (moved_fun t a b _ _).as (by rw [mvW_eq ha hb ⟨px0, py0⟩])
    have kb : Fun Tryz.prog 29 [moA t a b, I c.p.x1, I c.p.y1] (.tup [I (mvP t a b (c.p.x1, c.p.y1)).1, I (mvP t a b (c.p.x1, c.p.y1)).2]) := (moved_fun t a b _ _).as (by rw [mvW_eq ha hb ⟨px1, py1⟩])
    refine Rn.call 1000 rfl _ kp' ?_
    refine Rn.call 1000 rfl _ ks ?_
    refine Rn.call 1000 rfl _ kc ?_
    refine Rn.ite (b := !(goodE (mvS t a b s) == 0)) 1000 rfl (fun h => ?_) (fun h => ?_)
    · refine Rn.call 1000 rfl _ awake_fun ?_
      exact Rn.ret 1000 rfl rfl rfl
    have gu : goodE (mvS t a b s) = 0 := by simpa using h
    refine Rn.no 1000 rfl rfl ?_
    refine Rn.call 1000 rfl _ kx ?_
    refine Rn.call 1000 rfl _ ka ?_
    refine Rn.call 1000 rfl _ kb ?_
    have epa : mvPa t a b c.p = ⟨mn2 (mvP t a b (c.p.x0, c.p.y0)).1 (mvP t a b (c.p.x1, c.p.y1)).1, mn2 (mvP t a b (c.p.x0, c.p.y0)).2 (mvP t a b (c.p.x1, c.p.y1)).2, mx2 (mvP t a b (c.p.x0, c.p.y0)).1 (mvP t a b (c.p.x1, c.p.y1)).1, mx2 (mvP t a b (c.p.x0, c.p.y0)).2 (mvP t a b (c.p.x1, c.p.y1)).2⟩ := by
      unfold mvPa; rw [mn_min, mn_min, mx_max, mx_max]
    have w := wild2 hx hy
    have f1 := mv_onS g0 gu (i := c.i) (x := c.x) (y := c.y) w
    have f2 := mv_shadedS g0 gu (i := c.i) (x := c.x) (y := c.y) w
    have f3 := mv_meetsS g0 gu (i := c.i) hp
    have f4 := mv_shadeS g0 gu (i := c.i) hp
    have f5 := mv_facesS g0 gu c.i 0
    have a1 := On_fun s hs c.i c.x c.y
    have b1 := On_fun (mvS t a b s) hu c.i (mvP t a b (c.x, c.y)).1 (mvP t a b (c.x, c.y)).2
    have a2 := Shaded_fun s hs c.i c.x c.y
    have b2 := Shaded_fun (mvS t a b s) hu c.i (mvP t a b (c.x, c.y)).1 (mvP t a b (c.x, c.y)).2
    have a3 := Meets_fun s hs c.i c.p
    have b3 := Meets_fun (mvS t a b s) hu c.i (mvPa t a b c.p)
    have a4 := Shade_fun s hs c.i c.p
    have b4 := Shade_fun (mvS t a b s) hu c.i (mvPa t a b c.p)
    have a5 := Faces_fun s hs c.i 0
    have b5 := (Faces_fun (mvS t a b s) hu c.i 0).as (congrArg (fun p : Bool × Int => AV.tup [B p.1, I p.2]) f5.symm)
    rw [epa] at b3 b4 f3 f4
    clear kp kp' ks kc kx ka kb epa w f5
    generalize onS s c.i c.x c.y = p1 at *
    generalize onS (mvS t a b s) c.i (mvP t a b (c.x, c.y)).1 (mvP t a b (c.x, c.y)).2 = q1 at *
    generalize shadedS s c.i c.x c.y = p2 at *
    generalize shadedS (mvS t a b s) c.i (mvP t a b (c.x, c.y)).1 (mvP t a b (c.x, c.y)).2 = q2 at *
    generalize meetsS s c.i c.p = p3 at *
    generalize meetsS (mvS t a b s) c.i _ = q3 at *
    generalize shadeS s c.i c.p = p4 at *
    generalize shadeS (mvS t a b s) c.i _ = q4 at *
    generalize facesS s c.i 0 = p5 at *
    obtain ⟨o1, e1⟩ := p1
    obtain ⟨o2, e2⟩ := p2
    obtain ⟨o3, e3⟩ := p3
    obtain ⟨o4, e4⟩ := p4
    obtain ⟨o5, e5⟩ := p5
    obtain ⟨r1, f1'⟩ := q1
    obtain ⟨r2, f2'⟩ := q2
    obtain ⟨r3, f3'⟩ := q3
    obtain ⟨r4, f4'⟩ := q4
    simp only at f1 f2 f3 f4 a1 b1 a2 b2 a3 b3 a4 b4 a5 b5
    refine Rn.call 1000 rfl _ a1 ?_
    refine Rn.call 1000 rfl _ b1 ?_
    rcases Decidable.em (f1' = 0) with h1 | h1
    · obtain ⟨ea, eb⟩ := Prod.mk.inj (f1 h1)
      refine Rn.yes (b := f1' == 0) 1000 rfl (by rw [h1]; rfl) ?_
      refine Rn.no (b := !(e1 == f1')) 1000 rfl (by rw [eb]; simp) ?_
      refine Rn.no (b := !(o1 == r1)) 1000 rfl (by rw [ea]; simp) ?_
      refine Rn.call 1000 rfl _ a2 ?_
      refine Rn.call 1000 rfl _ b2 ?_
      rcases Decidable.em (f2' = 0) with h2 | h2
      · obtain ⟨ea, eb⟩ := Prod.mk.inj (f2 h2)
        refine Rn.yes (b := f2' == 0) 1000 rfl (by rw [h2]; rfl) ?_
        refine Rn.no (b := !(e2 == f2')) 1000 rfl (by rw [eb]; simp) ?_
        refine Rn.no (b := !(o2 == r2)) 1000 rfl (by rw [ea]; simp) ?_
        refine Rn.call 1000 rfl _ a3 ?_
        refine Rn.call 1000 rfl _ b3 ?_
        rcases Decidable.em (f3' = 0) with h3 | h3
        · obtain ⟨ea, eb⟩ := Prod.mk.inj (f3 h3)
          refine Rn.yes (b := f3' == 0) 1000 rfl (by rw [h3]; rfl) ?_
          refine Rn.no (b := !(e3 == f3')) 1000 rfl (by rw [eb]; simp) ?_
          refine Rn.no (b := !(o3 == r3)) 1000 rfl (by rw [ea]; simp) ?_
          refine Rn.call 1000 rfl _ a4 ?_
          refine Rn.call 1000 rfl _ b4 ?_
          rcases Decidable.em (f4' = 0) with h4 | h4
          · obtain ⟨ea, eb⟩ := Prod.mk.inj (f4 h4)
            refine Rn.yes (b := f4' == 0) 1000 rfl (by rw [h4]; rfl) ?_
            refine Rn.no (b := !(e4 == f4')) 1000 rfl (by rw [eb]; simp) ?_
            refine Rn.no (b := !(o4 == r4)) 1000 rfl (by rw [ea]; simp) ?_
            refine Rn.call 1000 rfl _ a5 ?_
            refine Rn.call 1000 rfl _ b5 ?_
            refine Rn.yes (b := e5 == e5) 1000 rfl (by simp) ?_
            refine Rn.yes (b := o5 == o5) 1000 rfl (by simp) ?_
            refine Rn.call 1000 rfl _ awake_fun ?_
            exact Rn.ret 1000 rfl rfl rfl
          · refine Rn.no (b := f4' == 0) 1000 rfl (by simpa using h4) ?_
            refine Rn.call 1000 rfl _ a5 ?_
            refine Rn.call 1000 rfl _ b5 ?_
            refine Rn.yes (b := e5 == e5) 1000 rfl (by simp) ?_
            refine Rn.yes (b := o5 == o5) 1000 rfl (by simp) ?_
            refine Rn.call 1000 rfl _ awake_fun ?_
            exact Rn.ret 1000 rfl rfl rfl
        · refine Rn.no (b := f3' == 0) 1000 rfl (by simpa using h3) ?_
          refine Rn.call 1000 rfl _ a4 ?_
          refine Rn.call 1000 rfl _ b4 ?_
          rcases Decidable.em (f4' = 0) with h4 | h4
          · obtain ⟨ea, eb⟩ := Prod.mk.inj (f4 h4)
            refine Rn.yes (b := f4' == 0) 1000 rfl (by rw [h4]; rfl) ?_
            refine Rn.no (b := !(e4 == f4')) 1000 rfl (by rw [eb]; simp) ?_
            refine Rn.no (b := !(o4 == r4)) 1000 rfl (by rw [ea]; simp) ?_
            refine Rn.call 1000 rfl _ a5 ?_
            refine Rn.call 1000 rfl _ b5 ?_
            refine Rn.yes (b := e5 == e5) 1000 rfl (by simp) ?_
            refine Rn.yes (b := o5 == o5) 1000 rfl (by simp) ?_
            refine Rn.call 1000 rfl _ awake_fun ?_
            exact Rn.ret 1000 rfl rfl rfl
          · refine Rn.no (b := f4' == 0) 1000 rfl (by simpa using h4) ?_
            refine Rn.call 1000 rfl _ a5 ?_
            refine Rn.call 1000 rfl _ b5 ?_
            refine Rn.yes (b := e5 == e5) 1000 rfl (by simp) ?_
            refine Rn.yes (b := o5 == o5) 1000 rfl (by simp) ?_
            refine Rn.call 1000 rfl _ awake_fun ?_
            exact Rn.ret 1000 rfl rfl rfl
      · refine Rn.no (b := f2' == 0) 1000 rfl (by simpa using h2) ?_
        refine Rn.call 1000 rfl _ a3 ?_
        refine Rn.call 1000 rfl _ b3 ?_
        rcases Decidable.em (f3' = 0) with h3 | h3
        · obtain ⟨ea, eb⟩ := Prod.mk.inj (f3 h3)
          refine Rn.yes (b := f3' == 0) 1000 rfl (by rw [h3]; rfl) ?_
          refine Rn.no (b := !(e3 == f3')) 1000 rfl (by rw [eb]; simp) ?_
          refine Rn.no (b := !(o3 == r3)) 1000 rfl (by rw [ea]; simp) ?_
          refine Rn.call 1000 rfl _ a4 ?_
          refine Rn.call 1000 rfl _ b4 ?_
          rcases Decidable.em (f4' = 0) with h4 | h4
          · obtain ⟨ea, eb⟩ := Prod.mk.inj (f4 h4)
            refine Rn.yes (b := f4' == 0) 1000 rfl (by rw [h4]; rfl) ?_
            refine Rn.no (b := !(e4 == f4')) 1000 rfl (by rw [eb]; simp) ?_
            refine Rn.no (b := !(o4 == r4)) 1000 rfl (by rw [ea]; simp) ?_
            refine Rn.call 1000 rfl _ a5 ?_
            refine Rn.call 1000 rfl _ b5 ?_
            refine Rn.yes (b := e5 == e5) 1000 rfl (by simp) ?_
            refine Rn.yes (b := o5 == o5) 1000 rfl (by simp) ?_
            refine Rn.call 1000 rfl _ awake_fun ?_
            exact Rn.ret 1000 rfl rfl rfl
          · refine Rn.no (b := f4' == 0) 1000 rfl (by simpa using h4) ?_
            refine Rn.call 1000 rfl _ a5 ?_
            refine Rn.call 1000 rfl _ b5 ?_
            refine Rn.yes (b := e5 == e5) 1000 rfl (by simp) ?_
            refine Rn.yes (b := o5 == o5) 1000 rfl (by simp) ?_
            refine Rn.call 1000 rfl _ awake_fun ?_
            exact Rn.ret 1000 rfl rfl rfl
        · refine Rn.no (b := f3' == 0) 1000 rfl (by simpa using h3) ?_
          refine Rn.call 1000 rfl _ a4 ?_
          refine Rn.call 1000 rfl _ b4 ?_
          rcases Decidable.em (f4' = 0) with h4 | h4
          · obtain ⟨ea, eb⟩ := Prod.mk.inj (f4 h4)
            refine Rn.yes (b := f4' == 0) 1000 rfl (by rw [h4]; rfl) ?_
            refine Rn.no (b := !(e4 == f4')) 1000 rfl (by rw [eb]; simp) ?_
            refine Rn.no (b := !(o4 == r4)) 1000 rfl (by rw [ea]; simp) ?_
            refine Rn.call 1000 rfl _ a5 ?_
            refine Rn.call 1000 rfl _ b5 ?_
            refine Rn.yes (b := e5 == e5) 1000 rfl (by simp) ?_
            refine Rn.yes (b := o5 == o5) 1000 rfl (by simp) ?_
            refine Rn.call 1000 rfl _ awake_fun ?_
            exact Rn.ret 1000 rfl rfl rfl
          · refine Rn.no (b := f4' == 0) 1000 rfl (by simpa using h4) ?_
            refine Rn.call 1000 rfl _ a5 ?_
            refine Rn.call 1000 rfl _ b5 ?_
            refine Rn.yes (b := e5 == e5) 1000 rfl (by simp) ?_
            refine Rn.yes (b := o5 == o5) 1000 rfl (by simp) ?_
            refine Rn.call 1000 rfl _ awake_fun ?_
            exact Rn.ret 1000 rfl rfl rfl
    · refine Rn.no (b := f1' == 0) 1000 rfl (by simpa using h1) ?_
      refine Rn.call 1000 rfl _ a2 ?_
      refine Rn.call 1000 rfl _ b2 ?_
      rcases Decidable.em (f2' = 0) with h2 | h2
      · obtain ⟨ea, eb⟩ := Prod.mk.inj (f2 h2)
        refine Rn.yes (b := f2' == 0) 1000 rfl (by rw [h2]; rfl) ?_
        refine Rn.no (b := !(e2 == f2')) 1000 rfl (by rw [eb]; simp) ?_
        refine Rn.no (b := !(o2 == r2)) 1000 rfl (by rw [ea]; simp) ?_
        refine Rn.call 1000 rfl _ a3 ?_
        refine Rn.call 1000 rfl _ b3 ?_
        rcases Decidable.em (f3' = 0) with h3 | h3
        · obtain ⟨ea, eb⟩ := Prod.mk.inj (f3 h3)
          refine Rn.yes (b := f3' == 0) 1000 rfl (by rw [h3]; rfl) ?_
          refine Rn.no (b := !(e3 == f3')) 1000 rfl (by rw [eb]; simp) ?_
          refine Rn.no (b := !(o3 == r3)) 1000 rfl (by rw [ea]; simp) ?_
          refine Rn.call 1000 rfl _ a4 ?_
          refine Rn.call 1000 rfl _ b4 ?_
          rcases Decidable.em (f4' = 0) with h4 | h4
          · obtain ⟨ea, eb⟩ := Prod.mk.inj (f4 h4)
            refine Rn.yes (b := f4' == 0) 1000 rfl (by rw [h4]; rfl) ?_
            refine Rn.no (b := !(e4 == f4')) 1000 rfl (by rw [eb]; simp) ?_
            refine Rn.no (b := !(o4 == r4)) 1000 rfl (by rw [ea]; simp) ?_
            refine Rn.call 1000 rfl _ a5 ?_
            refine Rn.call 1000 rfl _ b5 ?_
            refine Rn.yes (b := e5 == e5) 1000 rfl (by simp) ?_
            refine Rn.yes (b := o5 == o5) 1000 rfl (by simp) ?_
            refine Rn.call 1000 rfl _ awake_fun ?_
            exact Rn.ret 1000 rfl rfl rfl
          · refine Rn.no (b := f4' == 0) 1000 rfl (by simpa using h4) ?_
            refine Rn.call 1000 rfl _ a5 ?_
            refine Rn.call 1000 rfl _ b5 ?_
            refine Rn.yes (b := e5 == e5) 1000 rfl (by simp) ?_
            refine Rn.yes (b := o5 == o5) 1000 rfl (by simp) ?_
            refine Rn.call 1000 rfl _ awake_fun ?_
            exact Rn.ret 1000 rfl rfl rfl
        · refine Rn.no (b := f3' == 0) 1000 rfl (by simpa using h3) ?_
          refine Rn.call 1000 rfl _ a4 ?_
          refine Rn.call 1000 rfl _ b4 ?_
          rcases Decidable.em (f4' = 0) with h4 | h4
          · obtain ⟨ea, eb⟩ := Prod.mk.inj (f4 h4)
            refine Rn.yes (b := f4' == 0) 1000 rfl (by rw [h4]; rfl) ?_
            refine Rn.no (b := !(e4 == f4')) 1000 rfl (by rw [eb]; simp) ?_
            refine Rn.no (b := !(o4 == r4)) 1000 rfl (by rw [ea]; simp) ?_
            refine Rn.call 1000 rfl _ a5 ?_
            refine Rn.call 1000 rfl _ b5 ?_
            refine Rn.yes (b := e5 == e5) 1000 rfl (by simp) ?_
            refine Rn.yes (b := o5 == o5) 1000 rfl (by simp) ?_
            refine Rn.call 1000 rfl _ awake_fun ?_
            exact Rn.ret 1000 rfl rfl rfl
          · refine Rn.no (b := f4' == 0) 1000 rfl (by simpa using h4) ?_
            refine Rn.call 1000 rfl _ a5 ?_
            refine Rn.call 1000 rfl _ b5 ?_
            refine Rn.yes (b := e5 == e5) 1000 rfl (by simp) ?_
            refine Rn.yes (b := o5 == o5) 1000 rfl (by simp) ?_
            refine Rn.call 1000 rfl _ awake_fun ?_
            exact Rn.ret 1000 rfl rfl rfl
      · refine Rn.no (b := f2' == 0) 1000 rfl (by simpa using h2) ?_
        refine Rn.call 1000 rfl _ a3 ?_
        refine Rn.call 1000 rfl _ b3 ?_
        rcases Decidable.em (f3' = 0) with h3 | h3
        · obtain ⟨ea, eb⟩ := Prod.mk.inj (f3 h3)
          refine Rn.yes (b := f3' == 0) 1000 rfl (by rw [h3]; rfl) ?_
          refine Rn.no (b := !(e3 == f3')) 1000 rfl (by rw [eb]; simp) ?_
          refine Rn.no (b := !(o3 == r3)) 1000 rfl (by rw [ea]; simp) ?_
          refine Rn.call 1000 rfl _ a4 ?_
          refine Rn.call 1000 rfl _ b4 ?_
          rcases Decidable.em (f4' = 0) with h4 | h4
          · obtain ⟨ea, eb⟩ := Prod.mk.inj (f4 h4)
            refine Rn.yes (b := f4' == 0) 1000 rfl (by rw [h4]; rfl) ?_
            refine Rn.no (b := !(e4 == f4')) 1000 rfl (by rw [eb]; simp) ?_
            refine Rn.no (b := !(o4 == r4)) 1000 rfl (by rw [ea]; simp) ?_
            refine Rn.call 1000 rfl _ a5 ?_
            refine Rn.call 1000 rfl _ b5 ?_
            refine Rn.yes (b := e5 == e5) 1000 rfl (by simp) ?_
            refine Rn.yes (b := o5 == o5) 1000 rfl (by simp) ?_
            refine Rn.call 1000 rfl _ awake_fun ?_
            exact Rn.ret 1000 rfl rfl rfl
          · refine Rn.no (b := f4' == 0) 1000 rfl (by simpa using h4) ?_
            refine Rn.call 1000 rfl _ a5 ?_
            refine Rn.call 1000 rfl _ b5 ?_
            refine Rn.yes (b := e5 == e5) 1000 rfl (by simp) ?_
            refine Rn.yes (b := o5 == o5) 1000 rfl (by simp) ?_
            refine Rn.call 1000 rfl _ awake_fun ?_
            exact Rn.ret 1000 rfl rfl rfl
        · refine Rn.no (b := f3' == 0) 1000 rfl (by simpa using h3) ?_
          refine Rn.call 1000 rfl _ a4 ?_
          refine Rn.call 1000 rfl _ b4 ?_
          rcases Decidable.em (f4' = 0) with h4 | h4
          · obtain ⟨ea, eb⟩ := Prod.mk.inj (f4 h4)
            refine Rn.yes (b := f4' == 0) 1000 rfl (by rw [h4]; rfl) ?_
            refine Rn.no (b := !(e4 == f4')) 1000 rfl (by rw [eb]; simp) ?_
            refine Rn.no (b := !(o4 == r4)) 1000 rfl (by rw [ea]; simp) ?_
            refine Rn.call 1000 rfl _ a5 ?_
            refine Rn.call 1000 rfl _ b5 ?_
            refine Rn.yes (b := e5 == e5) 1000 rfl (by simp) ?_
            refine Rn.yes (b := o5 == o5) 1000 rfl (by simp) ?_
            refine Rn.call 1000 rfl _ awake_fun ?_
            exact Rn.ret 1000 rfl rfl rfl
          · refine Rn.no (b := f4' == 0) 1000 rfl (by simpa using h4) ?_
            refine Rn.call 1000 rfl _ a5 ?_
            refine Rn.call 1000 rfl _ b5 ?_
            refine Rn.yes (b := e5 == e5) 1000 rfl (by simp) ?_
            refine Rn.yes (b := o5 == o5) 1000 rfl (by simp) ?_
            refine Rn.call 1000 rfl _ awake_fun ?_
            exact Rn.ret 1000 rfl rfl rfl
end Go.Proofs.Am

/- The arguments of RoadMoves, opened. -/
namespace Go.Proofs.Am
open Go Go.ChangeShapes Go.WideShapes Go.RowKit
set_option maxRecDepth 100000
variable {H : Type} {enc : TypeId × Value → H} {W : World}
theorem cel4 : Tryz.prog.cellsOf 4 = 1 := by kernel_rfl
theorem cel60 : Tryz.prog.cellsOf 60 = 3 := by kernel_rfl
theorem op4 : Opens enc Tryz.prog W 4 (fun b : Bool => [B b]) (fun _ => True) := fun fuel cs x h => by
  obtain ⟨b, rfl, rfl⟩ := DataW.trod_bool Tryz.underlying4 h
  exact ⟨b, trivial, RC.one (.v _) rfl⟩
theorem op60 : Opens enc Tryz.prog W 60 (fun m : Bool × Int × Int => [B m.1, I m.2.1, I m.2.2]) (fun _ => True) := fun fuel cs x h => by
  obtain ⟨hl, m, hf⟩ := field_of Tryz.underlying60 h
  obtain ⟨_, f0⟩ := hf 0 _ rfl
  obtain ⟨a0, h0, r0⟩ := op4 _ _ _ f0
  have r0 := RC.cut (off := 0) cel4 r0
  obtain ⟨_, f1⟩ := hf 1 _ rfl
  obtain ⟨a1, h1, r1⟩ := op3 _ _ _ f1
  have r1 := RC.cut (off := 1) cel3 r1
  obtain ⟨_, f2⟩ := hf 2 _ rfl
  obtain ⟨a2, h2, r2⟩ := op3 _ _ _ f2
  have r2 := RC.cut (off := 2) cel3 r2
  exact ⟨(a0, a1, a2), trivial, whole_of (hl.trans cel60) (RC.join (off := 0) (n := 2) (k := 1) (RC.join (off := 0) (n := 1) (k := 1) r0 r1) r2)⟩
end Go.Proofs.Am
