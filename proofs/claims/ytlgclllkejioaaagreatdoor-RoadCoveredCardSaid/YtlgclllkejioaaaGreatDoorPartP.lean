/- Part of the proofs about the layer of roads: The squares of a road: what holds of them. The statement RoadCovered, walked. -/
import Derived.Test.YtlgclllkejioaaaGreatDoorPartO
import Derived.Test.YtlgclllkejioaaaGreatDoorPartL
set_option linter.unusedVariables false
set_option linter.unusedSimpArgs false

/- The squares of a road: what holds of them. -/
namespace Go.Proofs.Am
open Go Go.Proofs.Geo
set_option maxRecDepth 100000

theorem row_mem {r : Rd} {g : Gr} {b : Nat} {p : Pa} : ∀ {n}, p ∈ rowN r g b n ↔ ∃ a, a < n ∧ hitB r g a b = true ∧ p = sqP g a b
  | 0 => by simp [rowN]
  | n + 1 => by
    rw [rowN, List.mem_append, row_mem]
    constructor
    · rintro (⟨a, ha, h1, h2⟩ | h)
      · exact ⟨a, by omega, h1, h2⟩
      · cases hh : hitB r g n b with
        | true => rw [hh] at h; simp at h; exact ⟨n, by omega, hh, h⟩
        | false => rw [hh] at h; simp at h
    · rintro ⟨a, ha, h1, h2⟩
      by_cases e : a = n
      · subst e; right; rw [h1]; simpa using h2
      · left; exact ⟨a, by omega, h1, h2⟩
theorem all_mem {r : Rd} {g : Gr} {p : Pa} : ∀ {n}, p ∈ allR r g n ↔ ∃ b, b < n ∧ ∃ a, a < nw g ∧ hitB r g a b = true ∧ p = sqP g a b
  | 0 => by simp [allR]
  | n + 1 => by
    rw [allR, List.mem_append, all_mem, row_mem]
    constructor
    · rintro (⟨b, hb, h⟩ | h)
      · exact ⟨b, by omega, h⟩
      · exact ⟨n, by omega, h⟩
    · rintro ⟨b, hb, h⟩
      by_cases e : b = n
      · subst e; exact .inr h
      · exact .inl ⟨b, by omega, h⟩
/-- The order of the squares. -/
def ltP (p q : Pa) : Prop := p.y0 < q.y0 ∨ (p.y0 = q.y0 ∧ p.x0 < q.x0)
theorem mul_lt {a b s : Int} (hs : 0 < s) (h : a < b) : a * s < b * s := Int.mul_lt_mul_of_pos_right h hs
theorem row_sorted {r : Rd} {g : Gr} (hs : 0 < g.st) {b : Nat} : ∀ n, (rowN r g b n).Pairwise ltP
  | 0 => List.Pairwise.nil
  | n + 1 => by
    rw [rowN, List.pairwise_append]
    refine ⟨row_sorted hs n, by split <;> simp, fun p hp q hq => ?_⟩
    obtain ⟨a, ha, _, rfl⟩ := row_mem.1 hp
    cases hh : hitB r g n b with
    | false => rw [hh] at hq; simp at hq
    | true =>
      rw [hh] at hq
      simp at hq
      subst hq
      exact .inr ⟨rfl, mul_lt hs (by omega)⟩
theorem all_sorted {r : Rd} {g : Gr} (hs : 0 < g.st) : ∀ n, (allR r g n).Pairwise ltP
  | 0 => List.Pairwise.nil
  | n + 1 => by
    rw [allR, List.pairwise_append]
    refine ⟨all_sorted hs n, row_sorted hs _, fun p hp q hq => ?_⟩
    obtain ⟨b, hb, a, _, _, rfl⟩ := all_mem.1 hp
    obtain ⟨a', _, _, rfl⟩ := row_mem.1 hq
    exact .inl (mul_lt hs (by omega))
theorem mn_le (c : Nat → Int) : ∀ {n k : Nat}, k < n → mnN c n ≤ c k
  | n + 1, k, h => by
    rw [mnN, mn2_eq]
    by_cases e : k = n
    · subst e; omega
    · have := mn_le c (n := n) (k := k) (by omega); omega
theorem mx_ge (c : Nat → Int) : ∀ {n k : Nat}, k < n → c k ≤ mxN c n
  | n + 1, k, h => by
    rw [mxN, mx2_eq]
    by_cases e : k = n
    · subst e; omega
    · have := mx_ge c (n := n) (k := k) (by omega); omega
/-- A strip that has a point of a patch is not None. -/
theorem hit_of {r : Rd} (hr : RdOk r) {x : Box} (hx : x.ok) {k : Nat} (hk : k < r.pts.length - 1) {q : Pt} (hq : InBox x q) (h : Near (toP (pcA r k)) (toP (pcB r k)) q ((r.width : Rat) * r.width)) : (meetsZ r x == 0) = false := by
  rw [meetsZ_eq hr hx]
  have : someN r x (r.pts.length - 1) = true := by
    rw [someN_any, List.any_eq_true]
    exact ⟨k, List.mem_range.2 hk, (someR_iff hx (hr.ne k (by omega))).2 ⟨q, hq, h⟩⟩
  unfold rmeetsZ
  rw [this]
  split <;> rfl

theorem sq_abs {d w : Rat} (hw : 0 ≤ w) (h : d * d ≤ w * w) : -w ≤ d ∧ d ≤ w := by
  constructor
  · apply Classical.byContradiction
    intro hn
    have h1 : 0 < -d - w := by grind
    have h2 : 0 < -d + w := by grind
    have := Rat.mul_pos h1 h2
    grind
  · apply Classical.byContradiction
    intro hn
    have h1 : 0 < d - w := by grind
    have h2 : 0 < d + w := by grind
    have := Rat.mul_pos h1 h2
    grind
theorem lerp_in {a b lo hi t : Rat} (t0 : 0 ≤ t) (t1 : t ≤ 1) (ha : lo ≤ a ∧ a ≤ hi) (hb : lo ≤ b ∧ b ≤ hi) : lo ≤ a + t * (b - a) ∧ a + t * (b - a) ≤ hi := by
  have e : a + t * (b - a) = (1 - t) * a + t * b := by grind
  rw [e]
  have p1 := mulnn (a := 1 - t) (b := a - lo) (by grind) (by grind)
  have p2 := mulnn (a := t) (b := b - lo) t0 (by grind)
  have p3 := mulnn (a := 1 - t) (b := hi - a) (by grind) (by grind)
  have p4 := mulnn (a := t) (b := hi - b) t0 (by grind)
  constructor <;> grind
/-- A coordinate near a piece is within the width of those of the ends. -/
theorem near_coord {a b x lo hi w : Int} {t d2 : Rat} (hw : 0 ≤ w) (t0 : 0 ≤ t) (t1 : t ≤ 1) (ha : lo ≤ a ∧ a ≤ hi) (hb : lo ≤ b ∧ b ≤ hi)
    (h : (((2 * a : Int) : Rat) + t * (((2 * b : Int) : Rat) - ((2 * a : Int) : Rat)) - 2 * (x : Rat)) * (((2 * a : Int) : Rat) + t * (((2 * b : Int) : Rat) - ((2 * a : Int) : Rat)) - 2 * (x : Rat)) + d2 ≤ (w : Rat) * w) (hd : 0 ≤ d2) : lo - w ≤ x ∧ x ≤ hi + w := by
  have ha' : ((2 * lo : Int) : Rat) ≤ ((2 * a : Int) : Rat) ∧ ((2 * a : Int) : Rat) ≤ ((2 * hi : Int) : Rat) := ⟨cast_le.2 (by omega), cast_le.2 (by omega)⟩
  have hb' : ((2 * lo : Int) : Rat) ≤ ((2 * b : Int) : Rat) ∧ ((2 * b : Int) : Rat) ≤ ((2 * hi : Int) : Rat) := ⟨cast_le.2 (by omega), cast_le.2 (by omega)⟩
  have l := lerp_in t0 t1 ha' hb'
  have hw' : (0 : Rat) ≤ w := cast_nn.2 hw
  have s := sq_abs hw' (d := ((2 * a : Int) : Rat) + t * (((2 * b : Int) : Rat) - ((2 * a : Int) : Rat)) - 2 * (x : Rat)) (by grind)
  have r1 : ((2 * lo - w : Int) : Rat) ≤ ((2 * x : Int) : Rat) := by
    rw [Rat.intCast_sub, Rat.intCast_mul 2 x]; have : ((2 : Int) : Rat) = 2 := rfl; rw [this]; grind
  have r2 : ((2 * x : Int) : Rat) ≤ ((2 * hi + w : Int) : Rat) := by
    rw [Rat.intCast_add, Rat.intCast_mul 2 x]; have : ((2 : Int) : Rat) = 2 := rfl; rw [this]; grind
  have r1 := cast_le.1 r1
  have r2 := cast_le.1 r2
  omega
theorem cover {r : Rd} {st : Int} (ok : GrOk r st) (hw : 0 ≤ r.width) {x y : Int} (h : onZ r x y = true) : ∃ p ∈ allR r (grid r st) (nh (grid r st)), (p.x0 ≤ x ∧ x ≤ p.x1) ∧ p.y0 ≤ y ∧ y ≤ p.y1 := by
  obtain ⟨k, hk, hF⟩ := on_iff.1 h
  have hF' := hF
  unfold OnK at hF
  obtain ⟨t, t0, t1, hd⟩ := hF
  have hst := ok.s
  have kx := mn_le (ptX r) (n := r.pts.length) (k := k) (by omega)
  have kx' := mx_ge (ptX r) (n := r.pts.length) (k := k) (by omega)
  have kx1 := mn_le (ptX r) (n := r.pts.length) (k := k + 1) (by omega)
  have kx1' := mx_ge (ptX r) (n := r.pts.length) (k := k + 1) (by omega)
  have ky := mn_le (ptY r) (n := r.pts.length) (k := k) (by omega)
  have ky' := mx_ge (ptY r) (n := r.pts.length) (k := k) (by omega)
  have ky1 := mn_le (ptY r) (n := r.pts.length) (k := k + 1) (by omega)
  have ky1' := mx_ge (ptY r) (n := r.pts.length) (k := k + 1) (by omega)
  unfold dst on at hd
  have bx := near_coord (a := ptX r k) (b := ptX r (k + 1)) (x := x) (t := t) hw t0 t1 ⟨kx, kx'⟩ ⟨kx1, kx1'⟩ hd (sqnn _)
  have bY := near_coord (a := ptY r k) (b := ptY r (k + 1)) (x := y) (t := t) (d2 := ((toP (pcA r k)).x + t * ((toP (pcB r k)).x - (toP (pcA r k)).x) - (two (toP (x, y))).x) * ((toP (pcA r k)).x + t * ((toP (pcB r k)).x - (toP (pcA r k)).x) - (two (toP (x, y))).x)) hw t0 t1 ⟨ky, ky'⟩ ⟨ky1, ky1'⟩ (by rw [Rat.add_comm]; exact hd) (sqnn _)
  have gx0 : (grid r st).x0 ≤ x / st := Int.ediv_le_ediv (by omega) bx.1
  have gx1 : x / st ≤ (grid r st).x1 := Int.ediv_le_ediv (by omega) bx.2
  have gy0 : (grid r st).y0 ≤ y / st := Int.ediv_le_ediv (by omega) bY.1
  have gy1 : y / st ≤ (grid r st).y1 := Int.ediv_le_ediv (by omega) bY.2
  obtain ⟨a, ha⟩ : ∃ a : Nat, (grid r st).x0 + a = x / st := ⟨(x / st - (grid r st).x0).toNat, by omega⟩
  obtain ⟨b, hb⟩ : ∃ b : Nat, (grid r st).y0 + b = y / st := ⟨(y / st - (grid r st).y0).toNat, by omega⟩
  have han : a < nw (grid r st) := by unfold nw; omega
  have hbn : b < nh (grid r st) := by unfold nh; omega
  have es : (grid r st).st = st := rfl
  have ex := cell_hi (n := x) (st := st) (i := x / st) (by omega) (Int.le_refl _)
  have ex2 := cell_lo (n := x) (st := st) (i := x / st) (by omega) (Int.le_refl _)
  have ey := cell_hi (n := y) (st := st) (i := y / st) (by omega) (Int.le_refl _)
  have ey2 := cell_lo (n := y) (st := st) (i := y / st) (by omega) (Int.le_refl _)
  have c1 : (x / st + 1) * st = x / st * st + st := by rw [Int.add_mul, Int.one_mul]
  have c2 : (y / st + 1) * st = y / st * st + st := by rw [Int.add_mul, Int.one_mul]
  have hin : ((sqP (grid r st) a b).x0 ≤ x ∧ x ≤ (sqP (grid r st) a b).x1) ∧ (sqP (grid r st) a b).y0 ≤ y ∧ y ≤ (sqP (grid r st) a b).y1 := by
    unfold sqP
    simp only [es, ha, hb, c1, c2]
    omega
  refine ⟨sqP (grid r st) a b, all_mem.2 ⟨b, hbn, a, han, ?_, rfl⟩, hin⟩
  have hx := (sq_ok ok han hbn).2.1
  unfold hitB
  rw [hit_of ok.r hx hk (q := two (toP (x, y))) (in_two.1 ⟨cast_le.2 hin.1.1, cast_le.2 hin.1.2, cast_le.2 hin.2.1, cast_le.2 hin.2.2⟩) hF']
  rfl
end Go.Proofs.Am

/- The statement RoadCovered, walked. -/
namespace Go.Proofs.Am
open Go Go.Proofs.Geo
set_option maxRecDepth 100000
noncomputable abbrev fsCv : List (Nat × Func) := [(12, Tryz.f12)]
theorem cCv : CtxOK Tryz.prog (ctx [] fsCv) := ctx_ok (show FsOK Tryz.prog fsCv from ⟨Tryz.func12, Tryz.call12, trivial⟩) rfl

def inSq (p : Pa) (x y : Int) : Bool := decide (x ≥ p.x0) && (decide (x ≤ p.x1) && (decide (y ≥ p.y0) && decide (y ≤ p.y1)))
def fndN (L : List Pa) (x y : Int) : Nat → Bool
  | 0 => false
  | k + 1 => fndN L x y k || inSq (L.getD k default) x y
theorem fndN_any {L : List Pa} {x y : Int} : ∀ {n k}, k < n → inSq (L.getD k default) x y = true → fndN L x y n = true
  | n + 1, k, h, hi => by
    rw [fndN]
    by_cases e : k = n
    · subst e; rw [hi]; simp
    · rw [fndN_any (n := n) (k := k) (by omega) hi]; rfl
structure CovF (s : Sc) (i st : Int) (L : List Pa) : Prop where
  len : L.length ≤ 400
  side : ∀ p ∈ L, w64 (p.x1 - p.x0) = st ∧ w64 (p.y1 - p.y0) = st
  met : ∀ p ∈ L, (meetsS s i p).2 = 0 → (meetsS s i p).1 ≠ 0
  ord : ∀ k, k + 1 < L.length → ltP (L.getD k default) (L.getD (k + 1) default)
  cov : ∀ x y, onS s i x y = (true, 0) → ∃ k, k < L.length ∧ inSq (L.getD k default) x y = true
theorem covF_of {s : Sc} {i st : Int} {L : List Pa} (h : patS s i st = (L, 0)) : CovF s i st L := by
  have hlen : L.length ≤ 400 := by have := pat_len s i st; rw [h] at this; exact this
  unfold patS at h
  split at h
  rotate_left
  · rename_i h1; have h5 := (Prod.mk.inj h).2; rw [h5] at h1; simp at h1
  rename_i h1
  have hz : badP s i st = 0 := eq_of_beq h1
  unfold badP errS at hz
  split at hz
  rotate_left
  · rename_i h2; rw [hz] at h2; simp at h2
  rename_i h2
  split at hz
  · cases hz
  rename_i h3
  obtain ⟨g, i0, i1⟩ := idxE_zero (eq_of_beq h2)
  have hr := (good_ok g).rd i.toNat (by omega)
  have hw : 0 ≤ (s.roads.getD i.toNat default).width := by
    have := (road_ok ((good_parts g).2.1 i.toNat (by omega))).2; omega
  have hst : 100 ≤ st ∧ st ≤ 100000 := by unfold outB at h3; simp only [Bool.or_eq_true, decide_eq_true_eq, not_or] at h3; omega
  have hon : ∀ x y, onS s i x y = (true, 0) → onZ (s.roads.getD i.toNat default) x y = true := fun x y ho => by
    unfold onS at ho
    split at ho
    · exact (Prod.mk.inj ho).1
    · cases (Prod.mk.inj ho).1
  have hme : ∀ p, (meetsS s i p).2 = 0 → (meetsS s i p).1 = meetsZ (s.roads.getD i.toNat default) (bx p) := fun p hp => by
    unfold meetsS at hp ⊢
    split
    · rfl
    · rename_i hq
      rw [if_neg hq] at hp
      simp only at hp
      rw [hp] at hq; simp at hq
  generalize s.roads.getD i.toNat default = r at *
  have ok : GrOk r st := ⟨hst, hr⟩
  have eL : L = allR r (grid r st) (nh (grid r st)) := by
    unfold patR at h
    split at h
    · cases h
    · split at h
      · cases h
      · exact (Prod.mk.inj h).1.symm
  refine ⟨hlen, fun p hp => ?_, fun p hp h0 => ?_, fun k hk => ?_, fun x y ho => ?_⟩
  · rw [eL] at hp
    obtain ⟨b, hb, a, ha, _, rfl⟩ := all_mem.1 hp
    obtain ⟨⟨⟨⟨q1, q2⟩, q3, q4⟩, ⟨q5, q6⟩, q7, q8⟩, _⟩ := sq_ok ok ha hb
    have es : (grid r st).st = st := rfl
    unfold sqP at *
    simp only [es, Int.add_mul _ 1 st, Int.one_mul] at *
    constructor <;> (rw [w64_id (by omega)]; omega)
  · rw [eL] at hp
    obtain ⟨b, hb, a, ha, hh, rfl⟩ := all_mem.1 hp
    rw [hme _ h0]
    unfold hitB at hh
    simpa using hh
  · have hs := all_sorted (r := r) (g := grid r st) (by show 0 < st; omega) (nh (grid r st))
    rw [← eL] at hs
    have := List.pairwise_iff_getElem.1 hs k (k + 1) (by omega) hk (by omega)
    rwa [List.getD_eq_getElem?_getD, List.getD_eq_getElem?_getD, List.getElem?_eq_getElem (by omega), List.getElem?_eq_getElem hk]
  · obtain ⟨p, hp, ⟨a1, a2⟩, a3, a4⟩ := cover ok hw (hon x y ho)
    rw [← eL] at hp
    obtain ⟨k, hk, e⟩ := List.mem_iff_getElem.1 hp
    refine ⟨k, hk, ?_⟩
    rw [List.getD_eq_getElem?_getD, List.getElem?_eq_getElem hk]
    show inSq L[k] x y = true
    rw [e]
    unfold inSq
    simp only [Bool.and_eq_true, decide_eq_true_eq]
    omega
set_option maxHeartbeats 6400000 in
theorem roadCovered_fun (s : Sc) (hs : s.ok) (a : Sp) (st : Int) : Fun Tryz.prog 12 [scA s, spA a, I st] (B true) := by
  obtain ⟨⟨L, e⟩, hL⟩ : ∃ p, p = patS s a.i st := ⟨_, rfl⟩
  obtain ⟨⟨on, f⟩, hO⟩ : ∃ p, p = onS s a.i a.x a.y := ⟨_, rfl⟩
  have k1 := (patA_fun (Patches_fun s hs a.i st)).as (r' := .tup [pasA L, I e]) (by rw [← hL])
  have k2 := (On_fun s hs a.i a.x a.y).as (r' := .tup [B on, I f]) (by rw [← hO])
  refine Fun.of_run cCv rfl ?_
  refine Rn.call 1000 rfl _ k1 ?_
  refine Rn.call 1000 rfl _ k2 ?_
  refine Rn.ite (b := !(e == 0)) 1000 rfl (fun h => ?_) (fun he => ?_)
  · refine Rn.call 1000 rfl _ awake_fun ?_
    exact Rn.ret 1000 rfl rfl rfl
  refine Rn.ite (b := !(f == 0)) 1000 rfl (fun h => ?_) (fun hf => ?_)
  · refine Rn.call 1000 rfl _ awake_fun ?_
    exact Rn.ret 1000 rfl rfl rfl
  obtain rfl : e = 0 := by simpa using he
  obtain rfl : f = 0 := by simpa using hf
  obtain ⟨hlen, hside, hmet, hord, hcov⟩ := covF_of hL.symm
  clear k1 k2 he hf
  refine Rn.stop 1000 rfl ?_
  refine Rn.loop2 (fun _ => []) (fun k : Nat => [(2, I st), (3, .ptr 0 0), (4, .ptr 1 0), (7, pasA L), (9, B on), (11, B (fndN L a.x a.y k)), (12, I (k : Int))])
    (fun _ => [(0, .flat [rdsA s.roads, trsA s.trees, ftsA s.fronts, clsA s.cols] 27), (1, .flat [I a.i, I a.x, I a.y, I a.p.x0, I a.p.y0, I a.p.x1, I a.p.y1] 31)]) 2
    (fun k => k ≤ L.length) (fun k => L.length - k) 0 (Nat.zero_le _)
    ⟨⟨rfl, rfl, rfl, rfl, rfl, .cons rfl (.refl rfl) (.cons rfl (.refl rfl) (.cons rfl (.refl rfl) (.cons rfl (.refl rfl) (.cons rfl (.refl rfl) (.cons rfl (.bool _) (.cons rfl (.int _ _) .nil)))))), rfl⟩, trivial, .cons rfl (.flat' rfl rfl) (.cons rfl (.flat' rfl rfl) .nil)⟩ ?_
  rintro k hk ih
  refine Rn.ite (b := decide ((k : Int) < (L.length : Int))) 1000 rfl (fun h => ?_) (fun h => ?_)
  rotate_left
  · have h := of_decide_eq_false h
    have : k = L.length := by omega
    subst this
    refine Rn.ite (b := fndN L a.x a.y L.length) 1000 rfl (fun hq => ?_) (fun hq => ?_)
    · refine Rn.call 1000 rfl _ awake_fun ?_
      exact Rn.ret 1000 rfl rfl rfl
    · refine Rn.ite (b := !on) 1000 rfl (fun ho => ?_) (fun ho => ?_)
      · refine Rn.call 1000 rfl _ awake_fun ?_
        exact Rn.ret 1000 rfl rfl rfl
      · have ho : on = true := by simpa using ho
        subst ho
        obtain ⟨k, hk, hi⟩ := hcov _ _ hO.symm
        rw [fndN_any hk hi] at hq; cases hq
  have hk1 : k + 1 ≤ L.length := by have := of_decide_eq_true h; omega
  have in1 : inB (k : Int) L.length = true := by simp only [inB, Bool.and_eq_true, decide_eq_true_eq]; omega
  have hmem : L.getD k default ∈ L := getD_mem hk1
  obtain ⟨s1, s2⟩ := hside _ hmem
  obtain ⟨⟨m, e2⟩, hM⟩ : ∃ p, p = meetsS s a.i (L.getD k default) := ⟨_, rfl⟩
  have km := (Meets_fun s hs a.i (L.getD k default)).as (r' := .tup [I m, I e2]) (by rw [← hM])
  have hm : e2 = 0 → m = 0 → False := fun z1 z2 => by have := hmet _ hmem; rw [← hM] at this; exact this z1 z2
  have prev : (k : Int) > 0 → w64 ((k : Int) - 1) = ((k - 1 : Nat) : Int) ∧ ltP (L.getD (k - 1) default) (L.getD k default) := fun hp => by
    refine ⟨by rw [w64_id (by omega)]; omega, ?_⟩
    have := hord (k - 1) (by omega)
    rwa [show k - 1 + 1 = k by omega] at this
  have fn1 : fndN L a.x a.y (k + 1) = (fndN L a.x a.y k || inSq (L.getD k default) a.x a.y) := rfl
  unfold inSq at fn1
  clear hside hmet hord hcov hO hL hM hmem h
  refine Rn.asr 1000 rfl in1 ?_
  refine Rn.ite (b := fndN L a.x a.y k) 1000 rfl (fun d0 => ?_) (fun d0 => ?_)
  · skip
    refine Rn.call 1000 rfl _ km ?_
    refine Rn.ite (b := e2 == 0) 1000 rfl (fun z => ?_) (fun z => ?_)
    · refine Rn.ite (b := m == 0) 1000 rfl (fun c => (hm (eq_of_beq z) (eq_of_beq c)).elim) (fun _ => ?_)
      refine Rn.ite (b := !(w64 ((L.getD k default).x1 - (L.getD k default).x0) == st)) 1000 rfl (fun c => by rw [s1] at c; simp at c) (fun _ => ?_)
      refine Rn.ite (b := !(w64 ((L.getD k default).y1 - (L.getD k default).y0) == st)) 1000 rfl (fun c => by rw [s2] at c; simp at c) (fun _ => ?_)
      refine Rn.ite (b := decide ((k : Int) > 0)) 1000 rfl (fun c => ?_) (fun c => ?_)
      rotate_left
      · refine Rn.chk 1000 rfl (by kernel_rfl) ?_
        refine Rn.stop 1000 rfl ?_
        refine Rn.weaken trivial ?_ (ih (k + 1) (by omega) hk1)
        exact ⟨⟨rfl, rfl, rfl, rfl, rfl, .cons rfl (.refl rfl) (.cons rfl (.refl rfl) (.cons rfl (.refl rfl) (.cons rfl (.refl rfl) (.cons rfl (.refl rfl) (.cons rfl (by rw [fn1, d0]; exact .bool true) (.cons rfl (.eq rfl (congrArg I (w64_nat (m := 400) (by omega) (by omega)))) .nil)))))), rfl⟩, trivial, .cons rfl (.flat' rfl rfl) (.cons rfl (.flat' rfl rfl) .nil)⟩
      obtain ⟨ek, hlt⟩ := prev (of_decide_eq_true c)
      have in4 : inB (w64 ((k : Int) - 1)) L.length = true := by rw [ek]; simp only [inB, Bool.and_eq_true, decide_eq_true_eq]; omega
      refine Rn.asr 1000 rfl in4 ?_
      refine Rn.ite (b := decide ((L.getD (w64 ((k : Int) - 1)).toNat default).y0 > (L.getD k default).y0)) 1000 rfl (fun c => ?_) (fun c2 => ?_)
      · have c := of_decide_eq_true c
        rw [ek, Int.toNat_natCast] at c
        unfold ltP at hlt; omega
      refine Rn.asr 1000 rfl in4 ?_
      refine Rn.ite (b := (L.getD (w64 ((k : Int) - 1)).toNat default).y0 == (L.getD k default).y0) 1000 rfl (fun c3 => ?_) (fun c3 => ?_)
      rotate_left
      · refine Rn.chk 1000 rfl (by kernel_rfl) ?_
        refine Rn.stop 1000 rfl ?_
        refine Rn.weaken trivial ?_ (ih (k + 1) (by omega) hk1)
        exact ⟨⟨rfl, rfl, rfl, rfl, rfl, .cons rfl (.refl rfl) (.cons rfl (.refl rfl) (.cons rfl (.refl rfl) (.cons rfl (.refl rfl) (.cons rfl (.refl rfl) (.cons rfl (by rw [fn1, d0]; exact .bool true) (.cons rfl (.eq rfl (congrArg I (w64_nat (m := 400) (by omega) (by omega)))) .nil)))))), rfl⟩, trivial, .cons rfl (.flat' rfl rfl) (.cons rfl (.flat' rfl rfl) .nil)⟩
      refine Rn.asr 1000 rfl in4 ?_
      refine Rn.chk 1000 rfl (by kernel_rfl) ?_
      refine Rn.ite (b := decide ((L.getD (w64 ((k : Int) - 1)).toNat default).x0 ≥ (L.getD k default).x0)) 1000 rfl (fun c => ?_) (fun c => ?_)
      · have c := of_decide_eq_true c
        have c3 := eq_of_beq c3
        rw [ek, Int.toNat_natCast] at c c3
        unfold ltP at hlt; omega
      refine Rn.stop 1000 rfl ?_
      refine Rn.weaken trivial ?_ (ih (k + 1) (by omega) hk1)
      exact ⟨⟨rfl, rfl, rfl, rfl, rfl, .cons rfl (.refl rfl) (.cons rfl (.refl rfl) (.cons rfl (.refl rfl) (.cons rfl (.refl rfl) (.cons rfl (.refl rfl) (.cons rfl (by rw [fn1, d0]; exact .bool true) (.cons rfl (.eq rfl (congrArg I (w64_nat (m := 400) (by omega) (by omega)))) .nil)))))), rfl⟩, trivial, .cons rfl (.flat' rfl rfl) (.cons rfl (.flat' rfl rfl) .nil)⟩
    · skip
      refine Rn.ite (b := !(w64 ((L.getD k default).x1 - (L.getD k default).x0) == st)) 1000 rfl (fun c => by rw [s1] at c; simp at c) (fun _ => ?_)
      refine Rn.ite (b := !(w64 ((L.getD k default).y1 - (L.getD k default).y0) == st)) 1000 rfl (fun c => by rw [s2] at c; simp at c) (fun _ => ?_)
      refine Rn.ite (b := decide ((k : Int) > 0)) 1000 rfl (fun c => ?_) (fun c => ?_)
      rotate_left
      · refine Rn.chk 1000 rfl (by kernel_rfl) ?_
        refine Rn.stop 1000 rfl ?_
        refine Rn.weaken trivial ?_ (ih (k + 1) (by omega) hk1)
        exact ⟨⟨rfl, rfl, rfl, rfl, rfl, .cons rfl (.refl rfl) (.cons rfl (.refl rfl) (.cons rfl (.refl rfl) (.cons rfl (.refl rfl) (.cons rfl (.refl rfl) (.cons rfl (by rw [fn1, d0]; exact .bool true) (.cons rfl (.eq rfl (congrArg I (w64_nat (m := 400) (by omega) (by omega)))) .nil)))))), rfl⟩, trivial, .cons rfl (.flat' rfl rfl) (.cons rfl (.flat' rfl rfl) .nil)⟩
      obtain ⟨ek, hlt⟩ := prev (of_decide_eq_true c)
      have in4 : inB (w64 ((k : Int) - 1)) L.length = true := by rw [ek]; simp only [inB, Bool.and_eq_true, decide_eq_true_eq]; omega
      refine Rn.asr 1000 rfl in4 ?_
      refine Rn.ite (b := decide ((L.getD (w64 ((k : Int) - 1)).toNat default).y0 > (L.getD k default).y0)) 1000 rfl (fun c => ?_) (fun c2 => ?_)
      · have c := of_decide_eq_true c
        rw [ek, Int.toNat_natCast] at c
        unfold ltP at hlt; omega
      refine Rn.asr 1000 rfl in4 ?_
      refine Rn.ite (b := (L.getD (w64 ((k : Int) - 1)).toNat default).y0 == (L.getD k default).y0) 1000 rfl (fun c3 => ?_) (fun c3 => ?_)
      rotate_left
      · refine Rn.chk 1000 rfl (by kernel_rfl) ?_
        refine Rn.stop 1000 rfl ?_
        refine Rn.weaken trivial ?_ (ih (k + 1) (by omega) hk1)
        exact ⟨⟨rfl, rfl, rfl, rfl, rfl, .cons rfl (.refl rfl) (.cons rfl (.refl rfl) (.cons rfl (.refl rfl) (.cons rfl (.refl rfl) (.cons rfl (.refl rfl) (.cons rfl (by rw [fn1, d0]; exact .bool true) (.cons rfl (.eq rfl (congrArg I (w64_nat (m := 400) (by omega) (by omega)))) .nil)))))), rfl⟩, trivial, .cons rfl (.flat' rfl rfl) (.cons rfl (.flat' rfl rfl) .nil)⟩
      refine Rn.asr 1000 rfl in4 ?_
      refine Rn.chk 1000 rfl (by kernel_rfl) ?_
      refine Rn.ite (b := decide ((L.getD (w64 ((k : Int) - 1)).toNat default).x0 ≥ (L.getD k default).x0)) 1000 rfl (fun c => ?_) (fun c => ?_)
      · have c := of_decide_eq_true c
        have c3 := eq_of_beq c3
        rw [ek, Int.toNat_natCast] at c c3
        unfold ltP at hlt; omega
      refine Rn.stop 1000 rfl ?_
      refine Rn.weaken trivial ?_ (ih (k + 1) (by omega) hk1)
      exact ⟨⟨rfl, rfl, rfl, rfl, rfl, .cons rfl (.refl rfl) (.cons rfl (.refl rfl) (.cons rfl (.refl rfl) (.cons rfl (.refl rfl) (.cons rfl (.refl rfl) (.cons rfl (by rw [fn1, d0]; exact .bool true) (.cons rfl (.eq rfl (congrArg I (w64_nat (m := 400) (by omega) (by omega)))) .nil)))))), rfl⟩, trivial, .cons rfl (.flat' rfl rfl) (.cons rfl (.flat' rfl rfl) .nil)⟩
  rw [d0] at fn1
  refine Rn.ite (b := decide (a.x ≥ (L.getD k default).x0)) 1000 rfl (fun d1 => ?_) (fun d1 => ?_)
  rotate_left
  · skip
    refine Rn.call 1000 rfl _ km ?_
    refine Rn.ite (b := e2 == 0) 1000 rfl (fun z => ?_) (fun z => ?_)
    · refine Rn.ite (b := m == 0) 1000 rfl (fun c => (hm (eq_of_beq z) (eq_of_beq c)).elim) (fun _ => ?_)
      refine Rn.ite (b := !(w64 ((L.getD k default).x1 - (L.getD k default).x0) == st)) 1000 rfl (fun c => by rw [s1] at c; simp at c) (fun _ => ?_)
      refine Rn.ite (b := !(w64 ((L.getD k default).y1 - (L.getD k default).y0) == st)) 1000 rfl (fun c => by rw [s2] at c; simp at c) (fun _ => ?_)
      refine Rn.ite (b := decide ((k : Int) > 0)) 1000 rfl (fun c => ?_) (fun c => ?_)
      rotate_left
      · refine Rn.chk 1000 rfl (by kernel_rfl) ?_
        refine Rn.stop 1000 rfl ?_
        refine Rn.weaken trivial ?_ (ih (k + 1) (by omega) hk1)
        exact ⟨⟨rfl, rfl, rfl, rfl, rfl, .cons rfl (.refl rfl) (.cons rfl (.refl rfl) (.cons rfl (.refl rfl) (.cons rfl (.refl rfl) (.cons rfl (.refl rfl) (.cons rfl (by rw [fn1, d1]; exact .bool false) (.cons rfl (.eq rfl (congrArg I (w64_nat (m := 400) (by omega) (by omega)))) .nil)))))), rfl⟩, trivial, .cons rfl (.flat' rfl rfl) (.cons rfl (.flat' rfl rfl) .nil)⟩
      obtain ⟨ek, hlt⟩ := prev (of_decide_eq_true c)
      have in4 : inB (w64 ((k : Int) - 1)) L.length = true := by rw [ek]; simp only [inB, Bool.and_eq_true, decide_eq_true_eq]; omega
      refine Rn.asr 1000 rfl in4 ?_
      refine Rn.ite (b := decide ((L.getD (w64 ((k : Int) - 1)).toNat default).y0 > (L.getD k default).y0)) 1000 rfl (fun c => ?_) (fun c2 => ?_)
      · have c := of_decide_eq_true c
        rw [ek, Int.toNat_natCast] at c
        unfold ltP at hlt; omega
      refine Rn.asr 1000 rfl in4 ?_
      refine Rn.ite (b := (L.getD (w64 ((k : Int) - 1)).toNat default).y0 == (L.getD k default).y0) 1000 rfl (fun c3 => ?_) (fun c3 => ?_)
      rotate_left
      · refine Rn.chk 1000 rfl (by kernel_rfl) ?_
        refine Rn.stop 1000 rfl ?_
        refine Rn.weaken trivial ?_ (ih (k + 1) (by omega) hk1)
        exact ⟨⟨rfl, rfl, rfl, rfl, rfl, .cons rfl (.refl rfl) (.cons rfl (.refl rfl) (.cons rfl (.refl rfl) (.cons rfl (.refl rfl) (.cons rfl (.refl rfl) (.cons rfl (by rw [fn1, d1]; exact .bool false) (.cons rfl (.eq rfl (congrArg I (w64_nat (m := 400) (by omega) (by omega)))) .nil)))))), rfl⟩, trivial, .cons rfl (.flat' rfl rfl) (.cons rfl (.flat' rfl rfl) .nil)⟩
      refine Rn.asr 1000 rfl in4 ?_
      refine Rn.chk 1000 rfl (by kernel_rfl) ?_
      refine Rn.ite (b := decide ((L.getD (w64 ((k : Int) - 1)).toNat default).x0 ≥ (L.getD k default).x0)) 1000 rfl (fun c => ?_) (fun c => ?_)
      · have c := of_decide_eq_true c
        have c3 := eq_of_beq c3
        rw [ek, Int.toNat_natCast] at c c3
        unfold ltP at hlt; omega
      refine Rn.stop 1000 rfl ?_
      refine Rn.weaken trivial ?_ (ih (k + 1) (by omega) hk1)
      exact ⟨⟨rfl, rfl, rfl, rfl, rfl, .cons rfl (.refl rfl) (.cons rfl (.refl rfl) (.cons rfl (.refl rfl) (.cons rfl (.refl rfl) (.cons rfl (.refl rfl) (.cons rfl (by rw [fn1, d1]; exact .bool false) (.cons rfl (.eq rfl (congrArg I (w64_nat (m := 400) (by omega) (by omega)))) .nil)))))), rfl⟩, trivial, .cons rfl (.flat' rfl rfl) (.cons rfl (.flat' rfl rfl) .nil)⟩
    · skip
      refine Rn.ite (b := !(w64 ((L.getD k default).x1 - (L.getD k default).x0) == st)) 1000 rfl (fun c => by rw [s1] at c; simp at c) (fun _ => ?_)
      refine Rn.ite (b := !(w64 ((L.getD k default).y1 - (L.getD k default).y0) == st)) 1000 rfl (fun c => by rw [s2] at c; simp at c) (fun _ => ?_)
      refine Rn.ite (b := decide ((k : Int) > 0)) 1000 rfl (fun c => ?_) (fun c => ?_)
      rotate_left
      · refine Rn.chk 1000 rfl (by kernel_rfl) ?_
        refine Rn.stop 1000 rfl ?_
        refine Rn.weaken trivial ?_ (ih (k + 1) (by omega) hk1)
        exact ⟨⟨rfl, rfl, rfl, rfl, rfl, .cons rfl (.refl rfl) (.cons rfl (.refl rfl) (.cons rfl (.refl rfl) (.cons rfl (.refl rfl) (.cons rfl (.refl rfl) (.cons rfl (by rw [fn1, d1]; exact .bool false) (.cons rfl (.eq rfl (congrArg I (w64_nat (m := 400) (by omega) (by omega)))) .nil)))))), rfl⟩, trivial, .cons rfl (.flat' rfl rfl) (.cons rfl (.flat' rfl rfl) .nil)⟩
      obtain ⟨ek, hlt⟩ := prev (of_decide_eq_true c)
      have in4 : inB (w64 ((k : Int) - 1)) L.length = true := by rw [ek]; simp only [inB, Bool.and_eq_true, decide_eq_true_eq]; omega
      refine Rn.asr 1000 rfl in4 ?_
      refine Rn.ite (b := decide ((L.getD (w64 ((k : Int) - 1)).toNat default).y0 > (L.getD k default).y0)) 1000 rfl (fun c => ?_) (fun c2 => ?_)
      · have c := of_decide_eq_true c
        rw [ek, Int.toNat_natCast] at c
        unfold ltP at hlt; omega
      refine Rn.asr 1000 rfl in4 ?_
      refine Rn.ite (b := (L.getD (w64 ((k : Int) - 1)).toNat default).y0 == (L.getD k default).y0) 1000 rfl (fun c3 => ?_) (fun c3 => ?_)
      rotate_left
      · refine Rn.chk 1000 rfl (by kernel_rfl) ?_
        refine Rn.stop 1000 rfl ?_
        refine Rn.weaken trivial ?_ (ih (k + 1) (by omega) hk1)
        exact ⟨⟨rfl, rfl, rfl, rfl, rfl, .cons rfl (.refl rfl) (.cons rfl (.refl rfl) (.cons rfl (.refl rfl) (.cons rfl (.refl rfl) (.cons rfl (.refl rfl) (.cons rfl (by rw [fn1, d1]; exact .bool false) (.cons rfl (.eq rfl (congrArg I (w64_nat (m := 400) (by omega) (by omega)))) .nil)))))), rfl⟩, trivial, .cons rfl (.flat' rfl rfl) (.cons rfl (.flat' rfl rfl) .nil)⟩
      refine Rn.asr 1000 rfl in4 ?_
      refine Rn.chk 1000 rfl (by kernel_rfl) ?_
      refine Rn.ite (b := decide ((L.getD (w64 ((k : Int) - 1)).toNat default).x0 ≥ (L.getD k default).x0)) 1000 rfl (fun c => ?_) (fun c => ?_)
      · have c := of_decide_eq_true c
        have c3 := eq_of_beq c3
        rw [ek, Int.toNat_natCast] at c c3
        unfold ltP at hlt; omega
      refine Rn.stop 1000 rfl ?_
      refine Rn.weaken trivial ?_ (ih (k + 1) (by omega) hk1)
      exact ⟨⟨rfl, rfl, rfl, rfl, rfl, .cons rfl (.refl rfl) (.cons rfl (.refl rfl) (.cons rfl (.refl rfl) (.cons rfl (.refl rfl) (.cons rfl (.refl rfl) (.cons rfl (by rw [fn1, d1]; exact .bool false) (.cons rfl (.eq rfl (congrArg I (w64_nat (m := 400) (by omega) (by omega)))) .nil)))))), rfl⟩, trivial, .cons rfl (.flat' rfl rfl) (.cons rfl (.flat' rfl rfl) .nil)⟩
  refine Rn.ite (b := decide (a.x ≤ (L.getD k default).x1)) 1000 rfl (fun d2 => ?_) (fun d2 => ?_)
  rotate_left
  · skip
    refine Rn.call 1000 rfl _ km ?_
    refine Rn.ite (b := e2 == 0) 1000 rfl (fun z => ?_) (fun z => ?_)
    · refine Rn.ite (b := m == 0) 1000 rfl (fun c => (hm (eq_of_beq z) (eq_of_beq c)).elim) (fun _ => ?_)
      refine Rn.ite (b := !(w64 ((L.getD k default).x1 - (L.getD k default).x0) == st)) 1000 rfl (fun c => by rw [s1] at c; simp at c) (fun _ => ?_)
      refine Rn.ite (b := !(w64 ((L.getD k default).y1 - (L.getD k default).y0) == st)) 1000 rfl (fun c => by rw [s2] at c; simp at c) (fun _ => ?_)
      refine Rn.ite (b := decide ((k : Int) > 0)) 1000 rfl (fun c => ?_) (fun c => ?_)
      rotate_left
      · refine Rn.chk 1000 rfl (by kernel_rfl) ?_
        refine Rn.stop 1000 rfl ?_
        refine Rn.weaken trivial ?_ (ih (k + 1) (by omega) hk1)
        exact ⟨⟨rfl, rfl, rfl, rfl, rfl, .cons rfl (.refl rfl) (.cons rfl (.refl rfl) (.cons rfl (.refl rfl) (.cons rfl (.refl rfl) (.cons rfl (.refl rfl) (.cons rfl (by rw [fn1, d1, d2]; exact .bool false) (.cons rfl (.eq rfl (congrArg I (w64_nat (m := 400) (by omega) (by omega)))) .nil)))))), rfl⟩, trivial, .cons rfl (.flat' rfl rfl) (.cons rfl (.flat' rfl rfl) .nil)⟩
      obtain ⟨ek, hlt⟩ := prev (of_decide_eq_true c)
      have in4 : inB (w64 ((k : Int) - 1)) L.length = true := by rw [ek]; simp only [inB, Bool.and_eq_true, decide_eq_true_eq]; omega
      refine Rn.asr 1000 rfl in4 ?_
      refine Rn.ite (b := decide ((L.getD (w64 ((k : Int) - 1)).toNat default).y0 > (L.getD k default).y0)) 1000 rfl (fun c => ?_) (fun c2 => ?_)
      · have c := of_decide_eq_true c
        rw [ek, Int.toNat_natCast] at c
        unfold ltP at hlt; omega
      refine Rn.asr 1000 rfl in4 ?_
      refine Rn.ite (b := (L.getD (w64 ((k : Int) - 1)).toNat default).y0 == (L.getD k default).y0) 1000 rfl (fun c3 => ?_) (fun c3 => ?_)
      rotate_left
      · refine Rn.chk 1000 rfl (by kernel_rfl) ?_
        refine Rn.stop 1000 rfl ?_
        refine Rn.weaken trivial ?_ (ih (k + 1) (by omega) hk1)
        exact ⟨⟨rfl, rfl, rfl, rfl, rfl, .cons rfl (.refl rfl) (.cons rfl (.refl rfl) (.cons rfl (.refl rfl) (.cons rfl (.refl rfl) (.cons rfl (.refl rfl) (.cons rfl (by rw [fn1, d1, d2]; exact .bool false) (.cons rfl (.eq rfl (congrArg I (w64_nat (m := 400) (by omega) (by omega)))) .nil)))))), rfl⟩, trivial, .cons rfl (.flat' rfl rfl) (.cons rfl (.flat' rfl rfl) .nil)⟩
      refine Rn.asr 1000 rfl in4 ?_
      refine Rn.chk 1000 rfl (by kernel_rfl) ?_
      refine Rn.ite (b := decide ((L.getD (w64 ((k : Int) - 1)).toNat default).x0 ≥ (L.getD k default).x0)) 1000 rfl (fun c => ?_) (fun c => ?_)
      · have c := of_decide_eq_true c
        have c3 := eq_of_beq c3
        rw [ek, Int.toNat_natCast] at c c3
        unfold ltP at hlt; omega
      refine Rn.stop 1000 rfl ?_
      refine Rn.weaken trivial ?_ (ih (k + 1) (by omega) hk1)
      exact ⟨⟨rfl, rfl, rfl, rfl, rfl, .cons rfl (.refl rfl) (.cons rfl (.refl rfl) (.cons rfl (.refl rfl) (.cons rfl (.refl rfl) (.cons rfl (.refl rfl) (.cons rfl (by rw [fn1, d1, d2]; exact .bool false) (.cons rfl (.eq rfl (congrArg I (w64_nat (m := 400) (by omega) (by omega)))) .nil)))))), rfl⟩, trivial, .cons rfl (.flat' rfl rfl) (.cons rfl (.flat' rfl rfl) .nil)⟩
    · skip
      refine Rn.ite (b := !(w64 ((L.getD k default).x1 - (L.getD k default).x0) == st)) 1000 rfl (fun c => by rw [s1] at c; simp at c) (fun _ => ?_)
      refine Rn.ite (b := !(w64 ((L.getD k default).y1 - (L.getD k default).y0) == st)) 1000 rfl (fun c => by rw [s2] at c; simp at c) (fun _ => ?_)
      refine Rn.ite (b := decide ((k : Int) > 0)) 1000 rfl (fun c => ?_) (fun c => ?_)
      rotate_left
      · refine Rn.chk 1000 rfl (by kernel_rfl) ?_
        refine Rn.stop 1000 rfl ?_
        refine Rn.weaken trivial ?_ (ih (k + 1) (by omega) hk1)
        exact ⟨⟨rfl, rfl, rfl, rfl, rfl, .cons rfl (.refl rfl) (.cons rfl (.refl rfl) (.cons rfl (.refl rfl) (.cons rfl (.refl rfl) (.cons rfl (.refl rfl) (.cons rfl (by rw [fn1, d1, d2]; exact .bool false) (.cons rfl (.eq rfl (congrArg I (w64_nat (m := 400) (by omega) (by omega)))) .nil)))))), rfl⟩, trivial, .cons rfl (.flat' rfl rfl) (.cons rfl (.flat' rfl rfl) .nil)⟩
      obtain ⟨ek, hlt⟩ := prev (of_decide_eq_true c)
      have in4 : inB (w64 ((k : Int) - 1)) L.length = true := by rw [ek]; simp only [inB, Bool.and_eq_true, decide_eq_true_eq]; omega
      refine Rn.asr 1000 rfl in4 ?_
      refine Rn.ite (b := decide ((L.getD (w64 ((k : Int) - 1)).toNat default).y0 > (L.getD k default).y0)) 1000 rfl (fun c => ?_) (fun c2 => ?_)
      · have c := of_decide_eq_true c
        rw [ek, Int.toNat_natCast] at c
        unfold ltP at hlt; omega
      refine Rn.asr 1000 rfl in4 ?_
      refine Rn.ite (b := (L.getD (w64 ((k : Int) - 1)).toNat default).y0 == (L.getD k default).y0) 1000 rfl (fun c3 => ?_) (fun c3 => ?_)
      rotate_left
      · refine Rn.chk 1000 rfl (by kernel_rfl) ?_
        refine Rn.stop 1000 rfl ?_
        refine Rn.weaken trivial ?_ (ih (k + 1) (by omega) hk1)
        exact ⟨⟨rfl, rfl, rfl, rfl, rfl, .cons rfl (.refl rfl) (.cons rfl (.refl rfl) (.cons rfl (.refl rfl) (.cons rfl (.refl rfl) (.cons rfl (.refl rfl) (.cons rfl (by rw [fn1, d1, d2]; exact .bool false) (.cons rfl (.eq rfl (congrArg I (w64_nat (m := 400) (by omega) (by omega)))) .nil)))))), rfl⟩, trivial, .cons rfl (.flat' rfl rfl) (.cons rfl (.flat' rfl rfl) .nil)⟩
      refine Rn.asr 1000 rfl in4 ?_
      refine Rn.chk 1000 rfl (by kernel_rfl) ?_
      refine Rn.ite (b := decide ((L.getD (w64 ((k : Int) - 1)).toNat default).x0 ≥ (L.getD k default).x0)) 1000 rfl (fun c => ?_) (fun c => ?_)
      · have c := of_decide_eq_true c
        have c3 := eq_of_beq c3
        rw [ek, Int.toNat_natCast] at c c3
        unfold ltP at hlt; omega
      refine Rn.stop 1000 rfl ?_
      refine Rn.weaken trivial ?_ (ih (k + 1) (by omega) hk1)
      exact ⟨⟨rfl, rfl, rfl, rfl, rfl, .cons rfl (.refl rfl) (.cons rfl (.refl rfl) (.cons rfl (.refl rfl) (.cons rfl (.refl rfl) (.cons rfl (.refl rfl) (.cons rfl (by rw [fn1, d1, d2]; exact .bool false) (.cons rfl (.eq rfl (congrArg I (w64_nat (m := 400) (by omega) (by omega)))) .nil)))))), rfl⟩, trivial, .cons rfl (.flat' rfl rfl) (.cons rfl (.flat' rfl rfl) .nil)⟩
  refine Rn.ite (b := decide (a.y ≥ (L.getD k default).y0)) 1000 rfl (fun d3 => ?_) (fun d3 => ?_)
  rotate_left
  · skip
    refine Rn.call 1000 rfl _ km ?_
    refine Rn.ite (b := e2 == 0) 1000 rfl (fun z => ?_) (fun z => ?_)
    · refine Rn.ite (b := m == 0) 1000 rfl (fun c => (hm (eq_of_beq z) (eq_of_beq c)).elim) (fun _ => ?_)
      refine Rn.ite (b := !(w64 ((L.getD k default).x1 - (L.getD k default).x0) == st)) 1000 rfl (fun c => by rw [s1] at c; simp at c) (fun _ => ?_)
      refine Rn.ite (b := !(w64 ((L.getD k default).y1 - (L.getD k default).y0) == st)) 1000 rfl (fun c => by rw [s2] at c; simp at c) (fun _ => ?_)
      refine Rn.ite (b := decide ((k : Int) > 0)) 1000 rfl (fun c => ?_) (fun c => ?_)
      rotate_left
      · refine Rn.chk 1000 rfl (by kernel_rfl) ?_
        refine Rn.stop 1000 rfl ?_
        refine Rn.weaken trivial ?_ (ih (k + 1) (by omega) hk1)
        exact ⟨⟨rfl, rfl, rfl, rfl, rfl, .cons rfl (.refl rfl) (.cons rfl (.refl rfl) (.cons rfl (.refl rfl) (.cons rfl (.refl rfl) (.cons rfl (.refl rfl) (.cons rfl (by rw [fn1, d1, d2, d3]; exact .bool false) (.cons rfl (.eq rfl (congrArg I (w64_nat (m := 400) (by omega) (by omega)))) .nil)))))), rfl⟩, trivial, .cons rfl (.flat' rfl rfl) (.cons rfl (.flat' rfl rfl) .nil)⟩
      obtain ⟨ek, hlt⟩ := prev (of_decide_eq_true c)
      have in4 : inB (w64 ((k : Int) - 1)) L.length = true := by rw [ek]; simp only [inB, Bool.and_eq_true, decide_eq_true_eq]; omega
      refine Rn.asr 1000 rfl in4 ?_
      refine Rn.ite (b := decide ((L.getD (w64 ((k : Int) - 1)).toNat default).y0 > (L.getD k default).y0)) 1000 rfl (fun c => ?_) (fun c2 => ?_)
      · have c := of_decide_eq_true c
        rw [ek, Int.toNat_natCast] at c
        unfold ltP at hlt; omega
      refine Rn.asr 1000 rfl in4 ?_
      refine Rn.ite (b := (L.getD (w64 ((k : Int) - 1)).toNat default).y0 == (L.getD k default).y0) 1000 rfl (fun c3 => ?_) (fun c3 => ?_)
      rotate_left
      · refine Rn.chk 1000 rfl (by kernel_rfl) ?_
        refine Rn.stop 1000 rfl ?_
        refine Rn.weaken trivial ?_ (ih (k + 1) (by omega) hk1)
        exact ⟨⟨rfl, rfl, rfl, rfl, rfl, .cons rfl (.refl rfl) (.cons rfl (.refl rfl) (.cons rfl (.refl rfl) (.cons rfl (.refl rfl) (.cons rfl (.refl rfl) (.cons rfl (by rw [fn1, d1, d2, d3]; exact .bool false) (.cons rfl (.eq rfl (congrArg I (w64_nat (m := 400) (by omega) (by omega)))) .nil)))))), rfl⟩, trivial, .cons rfl (.flat' rfl rfl) (.cons rfl (.flat' rfl rfl) .nil)⟩
      refine Rn.asr 1000 rfl in4 ?_
      refine Rn.chk 1000 rfl (by kernel_rfl) ?_
      refine Rn.ite (b := decide ((L.getD (w64 ((k : Int) - 1)).toNat default).x0 ≥ (L.getD k default).x0)) 1000 rfl (fun c => ?_) (fun c => ?_)
      · have c := of_decide_eq_true c
        have c3 := eq_of_beq c3
        rw [ek, Int.toNat_natCast] at c c3
        unfold ltP at hlt; omega
      refine Rn.stop 1000 rfl ?_
      refine Rn.weaken trivial ?_ (ih (k + 1) (by omega) hk1)
      exact ⟨⟨rfl, rfl, rfl, rfl, rfl, .cons rfl (.refl rfl) (.cons rfl (.refl rfl) (.cons rfl (.refl rfl) (.cons rfl (.refl rfl) (.cons rfl (.refl rfl) (.cons rfl (by rw [fn1, d1, d2, d3]; exact .bool false) (.cons rfl (.eq rfl (congrArg I (w64_nat (m := 400) (by omega) (by omega)))) .nil)))))), rfl⟩, trivial, .cons rfl (.flat' rfl rfl) (.cons rfl (.flat' rfl rfl) .nil)⟩
    · skip
      refine Rn.ite (b := !(w64 ((L.getD k default).x1 - (L.getD k default).x0) == st)) 1000 rfl (fun c => by rw [s1] at c; simp at c) (fun _ => ?_)
      refine Rn.ite (b := !(w64 ((L.getD k default).y1 - (L.getD k default).y0) == st)) 1000 rfl (fun c => by rw [s2] at c; simp at c) (fun _ => ?_)
      refine Rn.ite (b := decide ((k : Int) > 0)) 1000 rfl (fun c => ?_) (fun c => ?_)
      rotate_left
      · refine Rn.chk 1000 rfl (by kernel_rfl) ?_
        refine Rn.stop 1000 rfl ?_
        refine Rn.weaken trivial ?_ (ih (k + 1) (by omega) hk1)
        exact ⟨⟨rfl, rfl, rfl, rfl, rfl, .cons rfl (.refl rfl) (.cons rfl (.refl rfl) (.cons rfl (.refl rfl) (.cons rfl (.refl rfl) (.cons rfl (.refl rfl) (.cons rfl (by rw [fn1, d1, d2, d3]; exact .bool false) (.cons rfl (.eq rfl (congrArg I (w64_nat (m := 400) (by omega) (by omega)))) .nil)))))), rfl⟩, trivial, .cons rfl (.flat' rfl rfl) (.cons rfl (.flat' rfl rfl) .nil)⟩
      obtain ⟨ek, hlt⟩ := prev (of_decide_eq_true c)
      have in4 : inB (w64 ((k : Int) - 1)) L.length = true := by rw [ek]; simp only [inB, Bool.and_eq_true, decide_eq_true_eq]; omega
      refine Rn.asr 1000 rfl in4 ?_
      refine Rn.ite (b := decide ((L.getD (w64 ((k : Int) - 1)).toNat default).y0 > (L.getD k default).y0)) 1000 rfl (fun c => ?_) (fun c2 => ?_)
      · have c := of_decide_eq_true c
        rw [ek, Int.toNat_natCast] at c
        unfold ltP at hlt; omega
      refine Rn.asr 1000 rfl in4 ?_
      refine Rn.ite (b := (L.getD (w64 ((k : Int) - 1)).toNat default).y0 == (L.getD k default).y0) 1000 rfl (fun c3 => ?_) (fun c3 => ?_)
      rotate_left
      · refine Rn.chk 1000 rfl (by kernel_rfl) ?_
        refine Rn.stop 1000 rfl ?_
        refine Rn.weaken trivial ?_ (ih (k + 1) (by omega) hk1)
        exact ⟨⟨rfl, rfl, rfl, rfl, rfl, .cons rfl (.refl rfl) (.cons rfl (.refl rfl) (.cons rfl (.refl rfl) (.cons rfl (.refl rfl) (.cons rfl (.refl rfl) (.cons rfl (by rw [fn1, d1, d2, d3]; exact .bool false) (.cons rfl (.eq rfl (congrArg I (w64_nat (m := 400) (by omega) (by omega)))) .nil)))))), rfl⟩, trivial, .cons rfl (.flat' rfl rfl) (.cons rfl (.flat' rfl rfl) .nil)⟩
      refine Rn.asr 1000 rfl in4 ?_
      refine Rn.chk 1000 rfl (by kernel_rfl) ?_
      refine Rn.ite (b := decide ((L.getD (w64 ((k : Int) - 1)).toNat default).x0 ≥ (L.getD k default).x0)) 1000 rfl (fun c => ?_) (fun c => ?_)
      · have c := of_decide_eq_true c
        have c3 := eq_of_beq c3
        rw [ek, Int.toNat_natCast] at c c3
        unfold ltP at hlt; omega
      refine Rn.stop 1000 rfl ?_
      refine Rn.weaken trivial ?_ (ih (k + 1) (by omega) hk1)
      exact ⟨⟨rfl, rfl, rfl, rfl, rfl, .cons rfl (.refl rfl) (.cons rfl (.refl rfl) (.cons rfl (.refl rfl) (.cons rfl (.refl rfl) (.cons rfl (.refl rfl) (.cons rfl (by rw [fn1, d1, d2, d3]; exact .bool false) (.cons rfl (.eq rfl (congrArg I (w64_nat (m := 400) (by omega) (by omega)))) .nil)))))), rfl⟩, trivial, .cons rfl (.flat' rfl rfl) (.cons rfl (.flat' rfl rfl) .nil)⟩
  refine Rn.call 1000 rfl _ km ?_
  refine Rn.ite (b := e2 == 0) 1000 rfl (fun z => ?_) (fun z => ?_)
  · refine Rn.ite (b := m == 0) 1000 rfl (fun c => (hm (eq_of_beq z) (eq_of_beq c)).elim) (fun _ => ?_)
    refine Rn.ite (b := !(w64 ((L.getD k default).x1 - (L.getD k default).x0) == st)) 1000 rfl (fun c => by rw [s1] at c; simp at c) (fun _ => ?_)
    refine Rn.ite (b := !(w64 ((L.getD k default).y1 - (L.getD k default).y0) == st)) 1000 rfl (fun c => by rw [s2] at c; simp at c) (fun _ => ?_)
    refine Rn.ite (b := decide ((k : Int) > 0)) 1000 rfl (fun c => ?_) (fun c => ?_)
    rotate_left
    · refine Rn.chk 1000 rfl (by kernel_rfl) ?_
      refine Rn.stop 1000 rfl ?_
      refine Rn.weaken trivial ?_ (ih (k + 1) (by omega) hk1)
      exact ⟨⟨rfl, rfl, rfl, rfl, rfl, .cons rfl (.refl rfl) (.cons rfl (.refl rfl) (.cons rfl (.refl rfl) (.cons rfl (.refl rfl) (.cons rfl (.refl rfl) (.cons rfl (.eq rfl (congrArg B (by rw [fn1, d1, d2, d3]; rfl))) (.cons rfl (.eq rfl (congrArg I (w64_nat (m := 400) (by omega) (by omega)))) .nil)))))), rfl⟩, trivial, .cons rfl (.flat' rfl rfl) (.cons rfl (.flat' rfl rfl) .nil)⟩
    obtain ⟨ek, hlt⟩ := prev (of_decide_eq_true c)
    have in4 : inB (w64 ((k : Int) - 1)) L.length = true := by rw [ek]; simp only [inB, Bool.and_eq_true, decide_eq_true_eq]; omega
    refine Rn.asr 1000 rfl in4 ?_
    refine Rn.ite (b := decide ((L.getD (w64 ((k : Int) - 1)).toNat default).y0 > (L.getD k default).y0)) 1000 rfl (fun c => ?_) (fun c2 => ?_)
    · have c := of_decide_eq_true c
      rw [ek, Int.toNat_natCast] at c
      unfold ltP at hlt; omega
    refine Rn.asr 1000 rfl in4 ?_
    refine Rn.ite (b := (L.getD (w64 ((k : Int) - 1)).toNat default).y0 == (L.getD k default).y0) 1000 rfl (fun c3 => ?_) (fun c3 => ?_)
    rotate_left
    · refine Rn.chk 1000 rfl (by kernel_rfl) ?_
      refine Rn.stop 1000 rfl ?_
      refine Rn.weaken trivial ?_ (ih (k + 1) (by omega) hk1)
      exact ⟨⟨rfl, rfl, rfl, rfl, rfl, .cons rfl (.refl rfl) (.cons rfl (.refl rfl) (.cons rfl (.refl rfl) (.cons rfl (.refl rfl) (.cons rfl (.refl rfl) (.cons rfl (.eq rfl (congrArg B (by rw [fn1, d1, d2, d3]; rfl))) (.cons rfl (.eq rfl (congrArg I (w64_nat (m := 400) (by omega) (by omega)))) .nil)))))), rfl⟩, trivial, .cons rfl (.flat' rfl rfl) (.cons rfl (.flat' rfl rfl) .nil)⟩
    refine Rn.asr 1000 rfl in4 ?_
    refine Rn.chk 1000 rfl (by kernel_rfl) ?_
    refine Rn.ite (b := decide ((L.getD (w64 ((k : Int) - 1)).toNat default).x0 ≥ (L.getD k default).x0)) 1000 rfl (fun c => ?_) (fun c => ?_)
    · have c := of_decide_eq_true c
      have c3 := eq_of_beq c3
      rw [ek, Int.toNat_natCast] at c c3
      unfold ltP at hlt; omega
    refine Rn.stop 1000 rfl ?_
    refine Rn.weaken trivial ?_ (ih (k + 1) (by omega) hk1)
    exact ⟨⟨rfl, rfl, rfl, rfl, rfl, .cons rfl (.refl rfl) (.cons rfl (.refl rfl) (.cons rfl (.refl rfl) (.cons rfl (.refl rfl) (.cons rfl (.refl rfl) (.cons rfl (.eq rfl (congrArg B (by rw [fn1, d1, d2, d3]; rfl))) (.cons rfl (.eq rfl (congrArg I (w64_nat (m := 400) (by omega) (by omega)))) .nil)))))), rfl⟩, trivial, .cons rfl (.flat' rfl rfl) (.cons rfl (.flat' rfl rfl) .nil)⟩
  · skip
    refine Rn.ite (b := !(w64 ((L.getD k default).x1 - (L.getD k default).x0) == st)) 1000 rfl (fun c => by rw [s1] at c; simp at c) (fun _ => ?_)
    refine Rn.ite (b := !(w64 ((L.getD k default).y1 - (L.getD k default).y0) == st)) 1000 rfl (fun c => by rw [s2] at c; simp at c) (fun _ => ?_)
    refine Rn.ite (b := decide ((k : Int) > 0)) 1000 rfl (fun c => ?_) (fun c => ?_)
    rotate_left
    · refine Rn.chk 1000 rfl (by kernel_rfl) ?_
      refine Rn.stop 1000 rfl ?_
      refine Rn.weaken trivial ?_ (ih (k + 1) (by omega) hk1)
      exact ⟨⟨rfl, rfl, rfl, rfl, rfl, .cons rfl (.refl rfl) (.cons rfl (.refl rfl) (.cons rfl (.refl rfl) (.cons rfl (.refl rfl) (.cons rfl (.refl rfl) (.cons rfl (.eq rfl (congrArg B (by rw [fn1, d1, d2, d3]; rfl))) (.cons rfl (.eq rfl (congrArg I (w64_nat (m := 400) (by omega) (by omega)))) .nil)))))), rfl⟩, trivial, .cons rfl (.flat' rfl rfl) (.cons rfl (.flat' rfl rfl) .nil)⟩
    obtain ⟨ek, hlt⟩ := prev (of_decide_eq_true c)
    have in4 : inB (w64 ((k : Int) - 1)) L.length = true := by rw [ek]; simp only [inB, Bool.and_eq_true, decide_eq_true_eq]; omega
    refine Rn.asr 1000 rfl in4 ?_
    refine Rn.ite (b := decide ((L.getD (w64 ((k : Int) - 1)).toNat default).y0 > (L.getD k default).y0)) 1000 rfl (fun c => ?_) (fun c2 => ?_)
    · have c := of_decide_eq_true c
      rw [ek, Int.toNat_natCast] at c
      unfold ltP at hlt; omega
    refine Rn.asr 1000 rfl in4 ?_
    refine Rn.ite (b := (L.getD (w64 ((k : Int) - 1)).toNat default).y0 == (L.getD k default).y0) 1000 rfl (fun c3 => ?_) (fun c3 => ?_)
    rotate_left
    · refine Rn.chk 1000 rfl (by kernel_rfl) ?_
      refine Rn.stop 1000 rfl ?_
      refine Rn.weaken trivial ?_ (ih (k + 1) (by omega) hk1)
      exact ⟨⟨rfl, rfl, rfl, rfl, rfl, .cons rfl (.refl rfl) (.cons rfl (.refl rfl) (.cons rfl (.refl rfl) (.cons rfl (.refl rfl) (.cons rfl (.refl rfl) (.cons rfl (.eq rfl (congrArg B (by rw [fn1, d1, d2, d3]; rfl))) (.cons rfl (.eq rfl (congrArg I (w64_nat (m := 400) (by omega) (by omega)))) .nil)))))), rfl⟩, trivial, .cons rfl (.flat' rfl rfl) (.cons rfl (.flat' rfl rfl) .nil)⟩
    refine Rn.asr 1000 rfl in4 ?_
    refine Rn.chk 1000 rfl (by kernel_rfl) ?_
    refine Rn.ite (b := decide ((L.getD (w64 ((k : Int) - 1)).toNat default).x0 ≥ (L.getD k default).x0)) 1000 rfl (fun c => ?_) (fun c => ?_)
    · have c := of_decide_eq_true c
      have c3 := eq_of_beq c3
      rw [ek, Int.toNat_natCast] at c c3
      unfold ltP at hlt; omega
    refine Rn.stop 1000 rfl ?_
    refine Rn.weaken trivial ?_ (ih (k + 1) (by omega) hk1)
    exact ⟨⟨rfl, rfl, rfl, rfl, rfl, .cons rfl (.refl rfl) (.cons rfl (.refl rfl) (.cons rfl (.refl rfl) (.cons rfl (.refl rfl) (.cons rfl (.refl rfl) (.cons rfl (.eq rfl (congrArg B (by rw [fn1, d1, d2, d3]; rfl))) (.cons rfl (.eq rfl (congrArg I (w64_nat (m := 400) (by omega) (by omega)))) .nil)))))), rfl⟩, trivial, .cons rfl (.flat' rfl rfl) (.cons rfl (.flat' rfl rfl) .nil)⟩
end Go.Proofs.Am
