/- Part of the proofs about the layer of roads: Fronts and windows, the program's and the reference's. Faces and Window, the program's and the reference's; the statement RoadFronts, walked. Arrays of numbers as arguments, opened. -/
import Derived.Test.YtlgclllkejioaaaGreatDoorPartK
import Derived.Test.YtlgclllkejioaaaGreatDoorPartL
set_option linter.unusedVariables false
set_option linter.unusedSimpArgs false

/- Fronts and windows, the program's and the reference's. -/
namespace Go.Proofs.Am
open Go Go.Proofs.Geo
set_option maxRecDepth 100000

noncomputable abbrev fsFr : List (Nat × Func) := [(30, Tryz.f30), (31, Tryz.f31), (32, Tryz.f32), (33, Tryz.f33), (80, Tryz.f80), (81, Tryz.f81), (82, Tryz.f82), (88, Tryz.f88), (9, Tryz.f9)]
theorem cFr : CtxOK Tryz.prog (ctx [] fsFr) := ctx_ok (show FsOK Tryz.prog fsFr from ⟨Tryz.func30, Tryz.call30, Tryz.func31, Tryz.call31, Tryz.func32, Tryz.call32, Tryz.func33, Tryz.call33, Tryz.func80, Tryz.call80, Tryz.func81, Tryz.call81, Tryz.func82, Tryz.call82, Tryz.func88, Tryz.call88, Tryz.func9, Tryz.call9, trivial⟩) rfl

theorem down_fun {n d : Int} (hn : Bd 1000000000000 n) (hd : 0 < d ∧ d ≤ 1000000) : Fun Tryz.prog 81 [I n, I d] (I (n / d)) := by
  obtain ⟨n1, n2⟩ := hn
  obtain ⟨d1, d2⟩ := hd
  have nz : (!(decide (d = 0))) = true := by rw [Bool.not_eq_true', decide_eq_false_iff_not]; omega
  refine Fun.of_run cFr rfl ?_
  refine Rn.ite (b := decide (n < 0)) 1000 rfl (fun h => ?_) (fun h => ?_)
  · have h := of_decide_eq_true h
    refine Rn.asr 1000 rfl nz ?_
    refine Rn.ret 1000 rfl rfl (congrArg I ?_)
    show w64 (0 - w64 ((w64 (w64 (d - 1) - n)).tdiv d)) = n / d
    rw [w64_id (x := d - 1) (by omega), w64_id (x := d - 1 - n) (by omega), Int.tdiv_eq_ediv_of_nonneg (by omega)]
    have h1 : (d - 1 - n) / d = -(n / d) := by
      have e1 := Int.emod_nonneg n (show d ≠ 0 by omega)
      have e2 := Int.emod_lt_of_pos n (show 0 < d by omega)
      have e3 := Int.mul_ediv_add_emod n d
      have : d - 1 - n = (d - 1 - n % d) + d * (-(n / d)) := by rw [Int.mul_neg]; omega
      rw [this, Int.add_mul_ediv_left _ _ (by omega), Int.ediv_eq_zero_of_lt (by omega) (by omega)]
      omega
    rw [h1]
    have b1 : -1000000000000 ≤ n / d := by
      rw [Int.le_ediv_iff_mul_le (by omega)]
      have := Int.mul_le_mul_of_nonneg_left (show (1 : Int) ≤ d by omega) (show (0 : Int) ≤ 1000000000000 by omega)
      omega
    have b2 : n / d < 0 := Int.ediv_neg_of_neg_of_pos h (by omega)
    rw [w64_id (x := -(n / d)) (by omega), w64_id (by omega)]
    omega
  · have h := of_decide_eq_false h
    refine Rn.asr 1000 rfl nz ?_
    refine Rn.ret 1000 rfl rfl (congrArg I ?_)
    show w64 (n.tdiv d) = n / d
    rw [Int.tdiv_eq_ediv_of_nonneg (by omega)]
    have b1 := Int.ediv_nonneg (show 0 ≤ n by omega) (show 0 ≤ d by omega)
    have b2 := Int.ediv_le_self d (show 0 ≤ n by omega)
    exact w64_id (by omega)
theorem rdown_fun {n d : Int} (hn : Bd 1000000000000 n) (hd : 0 < d ∧ d ≤ 1000000) : Fun Tryz.prog 88 [I n, I d] (I (n / d)) := by
  obtain ⟨n1, n2⟩ := hn
  obtain ⟨d1, d2⟩ := hd
  have nz : (!(decide (d = 0))) = true := by rw [Bool.not_eq_true', decide_eq_false_iff_not]; omega
  have e1 := Int.emod_nonneg n (show d ≠ 0 by omega)
  have e2 := Int.emod_lt_of_pos n (show 0 < d by omega)
  have e3 := Int.mul_ediv_add_emod n d
  have b1 : -1000000000000 ≤ n / d := by
    rw [Int.le_ediv_iff_mul_le (by omega)]
    have := Int.mul_le_mul_of_nonneg_left (show (1 : Int) ≤ d by omega) (show (0 : Int) ≤ 1000000000000 by omega)
    omega
  have b2 : n / d ≤ 1000000000000 := by
    rcases Int.lt_or_le n 0 with h | h
    · have := Int.ediv_neg_of_neg_of_pos h (show 0 < d by omega); omega
    · have := Int.ediv_le_self d h; omega
  have tn : n.tdiv d = if n < 0 ∧ n % d ≠ 0 then n / d + 1 else n / d := by
    split
    · rename_i h
      rw [Int.tdiv_eq_ediv, if_neg (by rintro (h1 | h1); · omega
                                       · exact h.2 (Int.emod_eq_zero_of_dvd h1)), Int.sign_eq_one_of_pos (by omega)]
    · rename_i h
      rw [Int.tdiv_eq_ediv, if_pos]
      · omega
      · by_cases h1 : n < 0
        · right; exact Int.dvd_of_emod_eq_zero (Classical.byContradiction fun h2 => h ⟨h1, h2⟩)
        · left; omega
  have tm0 : n.tmod d = 0 ↔ n % d = 0 := by
    rw [← Int.dvd_iff_tmod_eq_zero.symm.symm, Int.dvd_iff_emod_eq_zero]
  refine Fun.of_run cFr rfl ?_
  refine Rn.asr 1000 rfl nz ?_
  refine Rn.ite (b := decide (n < 0)) 1000 rfl (fun h => ?_) (fun h => ?_)
  · have h := of_decide_eq_true h
    refine Rn.asr 1000 rfl nz ?_
    refine Rn.ite 1000 rfl (fun h2 => ?_) (fun h2 => ?_)
    · have h3 : n % d ≠ 0 := fun e => by rw [tm0.2 e] at h2; simp at h2
      refine Rn.ret 1000 rfl rfl (congrArg I ?_)
      show w64 (w64 (n.tdiv d) - 1) = n / d
      rw [tn, if_pos ⟨h, h3⟩, w64_id (x := n / d + 1) (by omega), w64_id (by omega)]
      omega
    · have h3 : n % d = 0 := tm0.1 (by simpa using h2)
      refine Rn.ret 1000 rfl rfl (congrArg I ?_)
      show w64 (n.tdiv d) = n / d
      rw [tn, if_neg (by rintro ⟨_, h4⟩; exact h4 h3)]
      exact w64_id (by omega)
  · have h := of_decide_eq_false h
    refine Rn.ret 1000 rfl rfl (congrArg I ?_)
    show w64 (n.tdiv d) = n / d
    rw [tn, if_neg (by omega)]
    exact w64_id (by omega)

/-- One coordinate of a window: rounded outwards. -/
def sp0 (p q f : Int) : Int := 1000 * p + (q - p) * f
def lowZ (p q f t : Int) : Int := min (sp0 p q f) (sp0 p q t) / 1000
def highZ (p q f t : Int) : Int := -(-(max (sp0 p q f) (sp0 p q t)) / 1000)
def spW (p q f : Int) : Int := w64 (w64 (1000 * p) + w64 (w64 (q - p) * f))
theorem spW_eq {p q f : Int} (hp : Bd 100000 p) (hq : Bd 100000 q) (hf : 0 ≤ f ∧ f ≤ 1000) : spW p q f = sp0 p q f ∧ Bd 300000000 (sp0 p q f) := by
  obtain ⟨p1, p2⟩ := hp
  obtain ⟨q1, q2⟩ := hq
  have m := mulbd' (x := q - p) (y := f) (a := 200000) (b := 1000) (c := 200000000) ⟨by omega, by omega⟩ ⟨by omega, by omega⟩ (by decide)
  obtain ⟨m1, m2⟩ := m
  unfold spW sp0
  rw [w64_id (x := 1000 * p) (by omega), w64_id (x := q - p) (by omega), w64_id (x := (q - p) * f) (by omega), w64_id (by omega)]
  exact ⟨rfl, by omega, by omega⟩
theorem div_bd {n : Int} (h : Bd 300000000 n) : Bd 300000000 (n / 1000) := by
  obtain ⟨_, _⟩ := h
  constructor <;> omega
theorem span_eqs {p q f t : Int} (hp : Bd 100000 p) (hq : Bd 100000 q) (hf : 0 ≤ f ∧ f ≤ 1000) (ht : 0 ≤ t ∧ t ≤ 1000) :
    (mn2 (spW p q f) (spW p q t) / 1000 = lowZ p q f t ∧ Bd 1000000000000 (mn2 (spW p q f) (spW p q t))) ∧ (w64 (0 - (w64 (0 - mx2 (spW p q f) (spW p q t)) / 1000)) = highZ p q f t ∧ Bd 1000000000000 (w64 (0 - mx2 (spW p q f) (spW p q t)))) := by
  obtain ⟨a, ⟨a1, a2⟩⟩ := spW_eq hp hq hf
  obtain ⟨b, ⟨b1, b2⟩⟩ := spW_eq hp hq ht
  rw [a, b, mn2_eq, mx2_eq]
  unfold lowZ highZ
  have e : w64 (0 - max (sp0 p q f) (sp0 p q t)) = -(max (sp0 p q f) (sp0 p q t)) := by rw [w64_id (by omega)]; omega
  rw [e]
  have d := div_bd (n := -(max (sp0 p q f) (sp0 p q t))) ⟨by omega, by omega⟩
  obtain ⟨d1, d2⟩ := d
  refine ⟨⟨rfl, by omega, by omega⟩, ?_, by omega, by omega⟩
  rw [w64_id (by omega)]; omega
theorem spanC_fun {p q : Int} (w : Wn) (hp : Bd 100000 p) (hq : Bd 100000 q) (hf : 0 ≤ w.fro ∧ w.fro ≤ 1000) (ht : 0 ≤ w.til ∧ w.til ≤ 1000) : Fun Tryz.prog 80 [I p, I q, .pat (wnC w) 0] (.tup [I (lowZ p q w.fro w.til), I (highZ p q w.fro w.til)]) := by
  obtain ⟨⟨e1, b1⟩, e2, b2⟩ := span_eqs hp hq hf ht
  have k1 : Fun Tryz.prog 81 [I (mn2 (spW p q w.fro) (spW p q w.til)), I 1000] (I (lowZ p q w.fro w.til)) := (down_fun b1 (by decide)).as (by rw [e1])
  have k2 := down_fun b2 (d := 1000) (by decide)
  refine Fun.of_run cFr rfl ?_
  refine Rn.chk 1000 rfl (by kernel_rfl) ?_
  refine Rn.call 1000 rfl _ k1 ?_
  refine Rn.call 1000 rfl _ k2 ?_
  exact Rn.ret 1000 rfl rfl (by rw [← e2])
theorem span_fun {p q f t : Int} (hp : Bd 100000 p) (hq : Bd 100000 q) (hf : 0 ≤ f ∧ f ≤ 1000) (ht : 0 ≤ t ∧ t ≤ 1000) : Fun Tryz.prog 82 [I p, I q, I f, I t] (.tup [I (lowZ p q f t), I (highZ p q f t)]) := by
  obtain ⟨⟨e1, b1⟩, e2, b2⟩ := span_eqs hp hq hf ht
  have k1 : Fun Tryz.prog 88 [I (mn2 (spW p q f) (spW p q t)), I 1000] (I (lowZ p q f t)) := (rdown_fun b1 (by decide)).as (by rw [e1])
  have k2 := rdown_fun b2 (d := 1000) (by decide)
  refine Fun.of_run cFr rfl ?_
  refine Rn.call 1000 rfl _ k1 ?_
  refine Rn.call 1000 rfl _ k2 ?_
  exact Rn.ret 1000 rfl rfl (by rw [← e2])

def idx2E (s : Sc) (i n j m : Int) : Int := if idxE s i n == 0 && (decide (j < 0) || decide (j ≥ m)) then 4 else idxE s i n
theorem checked2_fun (s : Sc) (hs : s.ok) (i j : Int) (n m : Nat) (hn : n ≤ 9223372036854775807) (hm : m ≤ 9223372036854775807) : Fun Tryz.prog 44 [scA s, varA [i, (n : Int), j, (m : Int)]] (I (idx2E s i (n : Int) j (m : Int))) := by
  have e2 : idx2E s i n j m = if goodE s == 0 then (if outB i 0 (w64 ((n : Int) - 1)) then 4 else if outB j 0 (w64 ((m : Int) - 1)) then 4 else goodE s) else goodE s := by
    unfold idx2E idxE
    rw [← idx_out (i := i) hn, ← idx_out (i := j) hm]
    cases h : goodE s == 0 with
    | false => simp [h]
    | true =>
      cases outB i 0 (w64 ((n : Int) - 1)) with
      | true => simp
      | false => simp [h]
  rw [e2]
  refine Fun.of_run cH rfl ?_
  refine Rn.call 1000 rfl _ (check_fun s hs) ?_
  refine Rn.stop 1000 rfl ?_
  refine Rn.ite 1000 rfl (fun h0 => ?_) (fun h0 => ?_)
  rotate_left
  · exact absurd (of_decide_eq_false h0) (by simp)
  refine Rn.ite (b := goodE s == 0) 1000 rfl (fun h => ?_) (fun h => ?_)
  rotate_left
  · exact Rn.ret 1000 rfl rfl (by rw [h]; rfl)
  repeat (refine Rn.asr 1000 rfl (by first | rfl | simp [inB]) ?_)
  refine Rn.call 1000 rfl _ (out_fun _ _ _) ?_
  refine Rn.chk 1000 rfl (by kernel_rfl) ?_
  refine Rn.ite (b := outB i 0 (w64 ((n : Int) - 1))) 1000 rfl (fun h' => ?_) (fun h' => ?_)
  · refine Rn.stop 1000 rfl ?_
    refine Rn.ite 1000 rfl (fun h1 => ?_) (fun h1 => ?_)
    · exact Rn.ret 1000 rfl rfl (by rw [h, h']; rfl)
    · exact absurd (of_decide_eq_false h1) (by simp)
  · refine Rn.stop 1000 rfl ?_
    refine Rn.ite 1000 rfl (fun h1 => ?_) (fun h1 => ?_)
    rotate_left
    · exact absurd (of_decide_eq_false h1) (by simp)
    refine Rn.ite (b := goodE s == 0) 1000 rfl (fun h2 => ?_) (fun h2 => by rw [h] at h2; cases h2)
    repeat (refine Rn.asr 1000 rfl (by first | rfl | simp [inB]) ?_)
    refine Rn.call 1000 rfl _ (out_fun _ _ _) ?_
    refine Rn.chk 1000 rfl (by kernel_rfl) ?_
    refine Rn.ite (b := outB j 0 (w64 ((m : Int) - 1))) 1000 rfl (fun h3 => ?_) (fun h3 => ?_)
    · refine Rn.stop 1000 rfl ?_
      refine Rn.ite 1000 rfl (fun h1 => ?_) (fun h1 => ?_)
      · exact absurd (of_decide_eq_true h1) (by simp)
      exact Rn.ret 1000 rfl rfl (by rw [h, h', h3]; rfl)
    · refine Rn.stop 1000 rfl ?_
      refine Rn.ite 1000 rfl (fun h1 => ?_) (fun h1 => ?_)
      · exact absurd (of_decide_eq_true h1) (by simp)
      exact Rn.ret 1000 rfl rfl (by rw [h, h', h3]; rfl)
end Go.Proofs.Am

/- Faces and Window, the program's and the reference's; the statement RoadFronts, walked. -/
namespace Go.Proofs.Am
open Go Go.Proofs.Geo
set_option maxRecDepth 100000

def ftOf (s : Sc) (i : Int) : Ft := s.fronts.getD i.toNat default
theorem idx2E_zero {s : Sc} {i j : Int} {n m : Nat} (h : idx2E s i n j m = 0) : goodE s = 0 ∧ (0 ≤ i ∧ i < n) ∧ 0 ≤ j ∧ j < m := by
  unfold idx2E at h
  split at h
  · cases h
  · rename_i h1
    obtain ⟨g, a, b⟩ := idxE_zero h
    rw [h] at h1
    simp only [beq_self_eq_true, Bool.true_and, Bool.or_eq_true, decide_eq_true_eq, not_or] at h1
    exact ⟨g, ⟨a, b⟩, by omega, by omega⟩
def faceB (f : Ft) (c : Cl) : Bool := decide (sideB (f.ax, f.ay) (f.bx, f.bY) (c.x, c.y) > 0)
def facesS (s : Sc) (c f : Int) : Bool × Int := if idx2E s f s.fronts.length c s.cols.length == 0 then (faceB (ftOf s f) (colOf s c), 0) else (false, idx2E s f s.fronts.length c s.cols.length)
theorem Faces_fun (s : Sc) (hs : s.ok) (c f : Int) : Fun Tryz.prog 30 [scA s, I c, I f] (.tup [B (facesS s c f).1, I (facesS s c f).2]) := by
  refine Fun.of_run cFr rfl ?_
  refine Rn.call 1000 rfl _ (checked2_fun s hs f c s.fronts.length s.cols.length hs.2.2.1 hs.2.2.2.1) ?_
  refine Rn.ite (b := !(idx2E s f s.fronts.length c s.cols.length == 0)) 1000 rfl (fun h => ?_) (fun h => ?_)
  · rw [Bool.not_eq_true'] at h
    exact Rn.ret 1000 rfl rfl (by unfold facesS; rw [h]; rfl)
  rw [Bool.not_eq_false'] at h
  obtain ⟨g, ⟨f0, f1⟩, c0, c1⟩ := idx2E_zero (eq_of_beq h)
  have in1 : inB f s.fronts.length = true := by simp only [inB, Bool.and_eq_true, decide_eq_true_eq]; omega
  have in2 : inB c s.cols.length = true := by simp only [inB, Bool.and_eq_true, decide_eq_true_eq]; omega
  refine Rn.asr 1000 rfl in1 ?_
  refine Rn.asr 1000 rfl in2 ?_
  refine Rn.chk 1000 rfl (by kernel_rfl) ?_
  refine Rn.call 1000 rfl _ (side_fun _ _ _ _ _ _) ?_
  exact Rn.ret 1000 rfl rfl (by unfold facesS; rw [h]; rfl)
theorem rFaces_fun (s : Sc) (hs : s.ok) (c f : Int) : Fun Tryz.prog 31 [scA s, I c, I f] (.tup [B (facesS s c f).1, I (facesS s c f).2]) := by
  have bad : ∀ q : Bool, q = (decide (c < 0) || decide (c ≥ s.cols.length)) → (idxE s f s.fronts.length == 0) = true → q = true → facesS s c f = (false, 4) := fun q hq h h1 => by
    have : idx2E s f s.fronts.length c s.cols.length = 4 := by unfold idx2E; rw [h, ← hq, h1]; rfl
    unfold facesS; rw [this]; rfl
  have good : ∀ q : Bool, q = (decide (c < 0) || decide (c ≥ s.cols.length)) → (idxE s f s.fronts.length == 0) = true → q = false → idx2E s f s.fronts.length c s.cols.length = 0 := fun q hq h h1 => by
    unfold idx2E; rw [h, ← hq, h1]; exact eq_of_beq h
  have done : idx2E s f s.fronts.length c s.cols.length = 0 → inB f s.fronts.length = true ∧ inB c s.cols.length = true ∧ facesS s c f = (faceB (ftOf s f) (colOf s c), 0) := fun h => by
    obtain ⟨g, ⟨f0, f1⟩, c0, c1⟩ := idx2E_zero h
    refine ⟨by simp only [inB, Bool.and_eq_true, decide_eq_true_eq]; omega, by simp only [inB, Bool.and_eq_true, decide_eq_true_eq]; omega, by unfold facesS; rw [h]; rfl⟩
  refine Fun.of_run cFr rfl ?_
  refine Rn.call 1000 rfl _ (indexed_fun s hs f s.fronts.length) ?_
  refine Rn.ite (b := idxE s f s.fronts.length == 0) 1000 rfl (fun h => ?_) (fun h => ?_)
  rotate_left
  · refine Rn.ite (b := !(idxE s f s.fronts.length == 0)) 1000 rfl (fun h2 => ?_) (fun h2 => ?_)
    · have e : idx2E s f s.fronts.length c s.cols.length = idxE s f s.fronts.length := by unfold idx2E; rw [h]; rfl
      exact Rn.ret 1000 rfl rfl (by unfold facesS; rw [e, h]; rfl)
    · rw [h] at h2; cases h2
  refine Rn.ite (b := decide (c < 0)) 1000 rfl (fun h1 => ?_) (fun h1 => ?_)
  · exact Rn.ret 1000 rfl rfl (by rw [bad true (by rw [h1]; rfl) h rfl]; rfl)
  refine Rn.ite (b := decide (c ≥ (s.cols.length : Int))) 1000 rfl (fun h2 => ?_) (fun h2 => ?_)
  · exact Rn.ret 1000 rfl rfl (by rw [bad true (by rw [h1, h2]; rfl) h rfl]; rfl)
  obtain ⟨in1, in2, res⟩ := done (good false (by rw [h1, h2]; rfl) h rfl)
  refine Rn.ite (b := !(idxE s f s.fronts.length == 0)) 1000 rfl (fun h3 => ?_) (fun h3 => ?_)
  · rw [h] at h3; cases h3
  refine Rn.asr 1000 rfl in1 ?_
  refine Rn.asr 1000 rfl in2 ?_
  refine Rn.chk 1000 rfl (by kernel_rfl) ?_
  refine Rn.call 1000 rfl _ (rcross_fun _ _ _ _) ?_
  exact Rn.ret 1000 rfl rfl (by rw [res]; rfl)

structure Wb where
  a : Int
  b : Int
  c : Int
  d : Int
  e : Int
  f : Int
abbrev bxA (b : Wb) : AV := .agg [I b.a, I b.b, I b.c, I b.d, I b.e, I b.f]
def winOf (s : Sc) (f w : Int) : Wn := (ftOf s f).ws.getD w.toNat default
def boxOf (f : Ft) (w : Wn) : Wb := ⟨lowZ f.ax f.bx w.fro w.til, lowZ f.ay f.bY w.fro w.til, highZ f.ax f.bx w.fro w.til, highZ f.ay f.bY w.fro w.til, w.low, w.high⟩
def winE (s : Sc) (f w : Int) : Int := if idxE s f s.fronts.length == 0 then idxE s w (ftOf s f).ws.length else idxE s f s.fronts.length
def winS (s : Sc) (f w : Int) : Wb × Int := if winE s f w == 0 then (boxOf (ftOf s f) (winOf s f w), 0) else (⟨0, 0, 0, 0, 0, 0⟩, winE s f w)
theorem Window_fun (s : Sc) (hs : s.ok) (f w : Int) : Fun Tryz.prog 32 [scA s, I f, I w] (.tup [bxA (winS s f w).1, I (winS s f w).2]) := by
  refine Fun.of_run cFr rfl ?_
  refine Rn.call 1000 rfl _ (checked1_fun s hs f s.fronts.length hs.2.2.1) ?_
  refine Rn.ite (b := idxE s f s.fronts.length == 0) 1000 rfl (fun h => ?_) (fun h => ?_)
  rotate_left
  · refine Rn.ite (b := !(idxE s f s.fronts.length == 0)) 1000 rfl (fun h2 => ?_) (fun h2 => ?_)
    · have e : winE s f w = idxE s f s.fronts.length := by unfold winE; rw [h]; rfl
      exact Rn.ret 1000 rfl rfl (by unfold winS; rw [e, h]; rfl)
    · rw [h] at h2; cases h2
  obtain ⟨g, f0, f1⟩ := idxE_zero (eq_of_beq h)
  have ok := good_ok g
  have hft := ok.ft f.toNat (by omega)
  have in1 : inB f s.fronts.length = true := by simp only [inB, Bool.and_eq_true, decide_eq_true_eq]; omega
  have e : winE s f w = idxE s w (ftOf s f).ws.length := by unfold winE; rw [h]; rfl
  refine Rn.asr 1000 rfl in1 ?_
  refine Rn.call 1000 rfl _ (checked1_fun s hs w (ftOf s f).ws.length (by have := hft.len; unfold ftOf; omega)) ?_
  refine Rn.chk 1000 rfl (by kernel_rfl) ?_
  refine Rn.ite (b := !(idxE s w (ftOf s f).ws.length == 0)) 1000 rfl (fun h2 => ?_) (fun h2 => ?_)
  · rw [Bool.not_eq_true'] at h2
    exact Rn.ret 1000 rfl rfl (by unfold winS; rw [e, h2]; rfl)
  rw [Bool.not_eq_false'] at h2
  obtain ⟨_, w0, w1⟩ := idxE_zero (eq_of_beq h2)
  have in2 : inB w (ftOf s f).ws.length = true := by simp only [inB, Bool.and_eq_true, decide_eq_true_eq]; omega
  have hw : WnOk (winOf s f w) := hft.ws _ (getD_mem (by unfold ftOf at w1; omega))
  have hf3 : 0 ≤ (winOf s f w).fro ∧ (winOf s f w).fro ≤ 1000 := ⟨hw.fro.1, by have := hw.fro.2; have := hw.til; omega⟩
  have ht3 : 0 ≤ (winOf s f w).til ∧ (winOf s f w).til ≤ 1000 := ⟨by have := hw.fro; omega, hw.til⟩
  refine Rn.asr 1000 rfl in1 ?_
  refine Rn.asr 1000 rfl in2 ?_
  refine Rn.call 1000 rfl _ (spanC_fun (winOf s f w) hft.ax hft.bx hf3 ht3) ?_
  refine Rn.call 1000 rfl _ (spanC_fun (winOf s f w) hft.ay hft.bY hf3 ht3) ?_
  exact Rn.ret 1000 rfl rfl (by unfold winS; rw [e, h2]; rfl)

theorem rWindow_fun (s : Sc) (hs : s.ok) (f w : Int) : Fun Tryz.prog 33 [scA s, I f, I w] (.tup [bxA (winS s f w).1, I (winS s f w).2]) := by
  refine Fun.of_run cFr rfl ?_
  refine Rn.call 1000 rfl _ (indexed_fun s hs f s.fronts.length) ?_
  refine Rn.ite (b := idxE s f s.fronts.length == 0) 1000 rfl (fun h => ?_) (fun h => ?_)
  rotate_left
  · refine Rn.ite (b := !(idxE s f s.fronts.length == 0)) 1000 rfl (fun h2 => ?_) (fun h2 => ?_)
    · have e : winE s f w = idxE s f s.fronts.length := by unfold winE; rw [h]; rfl
      exact Rn.ret 1000 rfl rfl (by unfold winS; rw [e, h]; rfl)
    · rw [h] at h2; cases h2
  obtain ⟨g, f0, f1⟩ := idxE_zero (eq_of_beq h)
  have ok := good_ok g
  have hft := ok.ft f.toNat (by omega)
  have in1 : inB f s.fronts.length = true := by simp only [inB, Bool.and_eq_true, decide_eq_true_eq]; omega
  have e : winE s f w = idxE s w (ftOf s f).ws.length := by unfold winE; rw [h]; rfl
  have bad : ∀ q : Bool, q = (decide (w < 0) || decide (w ≥ (ftOf s f).ws.length)) → q = true → winS s f w = (⟨0, 0, 0, 0, 0, 0⟩, 4) := fun q hq h1 => by
    have : idxE s w (ftOf s f).ws.length = 4 := by unfold idxE; rw [← hq, h1, g]; rfl
    unfold winS; rw [e, this]; rfl
  have good : ∀ q : Bool, q = (decide (w < 0) || decide (w ≥ (ftOf s f).ws.length)) → q = false → winS s f w = (boxOf (ftOf s f) (winOf s f w), 0) := fun q hq h1 => by
    have : idxE s w (ftOf s f).ws.length = 0 := by unfold idxE; rw [← hq, h1, g]; rfl
    unfold winS; rw [e, this]; rfl
  refine Rn.ite (b := decide (w < 0)) 1000 rfl (fun h1 => ?_) (fun h1 => ?_)
  · exact Rn.ret 1000 rfl rfl (by rw [bad true (by rw [h1]; rfl) rfl]; rfl)
  refine Rn.asr 1000 rfl in1 ?_
  refine Rn.ite (b := decide (w ≥ ((ftOf s f).ws.length : Int))) 1000 rfl (fun h2 => ?_) (fun h2 => ?_)
  · exact Rn.ret 1000 rfl rfl (by rw [bad true (by rw [h1, h2]; rfl) rfl]; rfl)
  rw [good false (by rw [h1, h2]; rfl) rfl]
  refine Rn.ite (b := !(idxE s f s.fronts.length == 0)) 1000 rfl (fun h3 => ?_) (fun h3 => ?_)
  · rw [h] at h3; cases h3
  have w0 := of_decide_eq_false h1
  have w1 := of_decide_eq_false h2
  have in2 : inB w (ftOf s f).ws.length = true := by simp only [inB, Bool.and_eq_true, decide_eq_true_eq]; omega
  have hw : WnOk (winOf s f w) := hft.ws _ (getD_mem (by unfold ftOf at w1; omega))
  have hf3 : 0 ≤ (winOf s f w).fro ∧ (winOf s f w).fro ≤ 1000 := ⟨hw.fro.1, by have := hw.fro.2; have := hw.til; omega⟩
  have ht3 : 0 ≤ (winOf s f w).til ∧ (winOf s f w).til ≤ 1000 := ⟨by have := hw.fro; omega, hw.til⟩
  refine Rn.asr 1000 rfl in1 ?_
  refine Rn.asr 1000 rfl in2 ?_
  refine Rn.call 1000 rfl _ (span_fun hft.ax hft.bx hf3 ht3) ?_
  refine Rn.call 1000 rfl _ (span_fun hft.ay hft.bY hf3 ht3) ?_
  exact Rn.ret 1000 rfl rfl rfl
theorem roadFronts_fun (s : Sc) (hs : s.ok) (a b c : Int) : Fun Tryz.prog 9 [scA s, .agg [I a, I b, I c]] (B true) := by
  refine Fun.of_run cFr rfl ?_
  refine Rn.call 1000 rfl _ (Faces_fun s hs a b) ?_
  refine Rn.call 1000 rfl _ (rFaces_fun s hs a b) ?_
  refine Rn.call 1000 rfl _ (Window_fun s hs b c) ?_
  refine Rn.call 1000 rfl _ (rWindow_fun s hs b c) ?_
  repeat' refine Rn.ite 1000 rfl (fun _ => ?_) (fun h => absurd h (by simp))
  refine Rn.call 1000 rfl _ awake_fun ?_
  exact Rn.ret 1000 rfl rfl rfl
end Go.Proofs.Am

/- Arrays of numbers as arguments, opened. -/
namespace Go.Proofs.Am
open Go Go.ChangeShapes Go.WideShapes Go.RowKit
set_option maxRecDepth 100000
variable {H : Type} {enc : TypeId × Value → H} {W : World}
theorem cel66 : Tryz.prog.cellsOf 66 = 3 := by kernel_rfl
theorem op66 : Opens enc Tryz.prog W 66 (fun a : Int × Int × Int => [I a.1, I a.2.1, I a.2.2]) (fun _ => True) := fun fuel cs x h => by
  obtain ⟨hl, m, hf⟩ := elem_of Tryz.underlying66 h
  obtain ⟨_, f0⟩ := hf 0 (by decide)
  obtain ⟨_, f1⟩ := hf 1 (by decide)
  obtain ⟨_, f2⟩ := hf 2 (by decide)
  rw [cel3] at f0 f1 f2
  obtain ⟨a0, h0, r0⟩ := op3 _ _ _ f0
  obtain ⟨a1, h1, r1⟩ := op3 _ _ _ f1
  obtain ⟨a2, h2, r2⟩ := op3 _ _ _ f2
  exact ⟨(a0, a1, a2), trivial, whole_of (hl.trans cel66) (RC.join (off := 0) (n := 2) (k := 1) (RC.join (off := 0) (n := 1) (k := 1) r0 r1) r2)⟩
theorem arg_arr {P : Program} {t e : TypeId} {n : Nat} {α : Type} {f : α → List AV} {ok : α → Prop} (ht : P.underlying t = some (.array n e)) (ho : Opens enc P W t f ok) {b0 : Nat} {v : Value} {d : DataW H} {ps : List MemPlace}
    (hval : Value.okWide P W .any b0 t v) (hd : DataW.Trod enc P W 0 (fun _ => true) true t v d ps) : ∃ a, ok a ∧ RelC (memW W) (.agg (f a)) v := by
  unfold Value.okWide at hval
  rw [ht] at hval
  obtain ⟨cs, rfl, _, _⟩ := hval
  obtain ⟨fuel, hf⟩ := hd
  obtain ⟨a, ha, hr, _⟩ := ho _ _ _ hf
  refine ⟨a, ha, .agg _ cs ?_ fun i hi hj => ?_⟩
  · have := hr.1
    simpa [Value.cells] using this
  · have := hr.2 i hi (by simpa [Value.cells] using hj)
    simpa [Value.cells] using this
end Go.Proofs.Am
