import PyProof.Rows.All
import Wide.All
import OpenK.AllK
import Wide.FinOn
import Open.SpecLaws
import KE.OsGo
import HandS.ForSpec
import HandS.Comp
import HandS.Iter
import HandS.Walk
import HandS.Wide
import HandS.SortInts
import PySem.Challenge.RW_pairblend_s06_count_mixtures
set_option Elab.async false
set_option linter.all false
set_option maxRecDepth 100000
set_option maxHeartbeats 4000000
/-! Plain laws of pairblend: rationals in lowest terms, the predicted response, no program in sight. -/
namespace Pb
open Ks604 (Rational)
open Ks604.Rational (make)
/-! ### rationals -/
theorem gpos {a : Nat} {b : Nat} (hb : 0 < b) : 0 < Nat.gcd a b := Nat.gcd_pos_of_pos_right a hb
theorem make_pos {a : Int} {b : Nat} (hb : 0 < b) : make a b = ⟨a / (Nat.gcd a.natAbs b : Nat), b / Nat.gcd a.natAbs b⟩ := by
  unfold make
  rw [if_neg (by omega)]
theorem make_num {a : Int} {b : Nat} (hb : 0 < b) : (make a b).num = a / (Nat.gcd a.natAbs b : Nat) := by rw [make_pos hb]
theorem make_den {a : Int} {b : Nat} (hb : 0 < b) : (make a b).den = b / Nat.gcd a.natAbs b := by rw [make_pos hb]
theorem make_scale (a : Int) {b k : Nat} (hb : 0 < b) (hk : 0 < k) : make (a * k) (b * k) = make a b := by
  have hg : 0 < Nat.gcd a.natAbs b := gpos hb
  have e : Nat.gcd (a * (k : Int)).natAbs (b * k) = Nat.gcd a.natAbs b * k := by
    rw [Int.natAbs_mul, Int.natAbs_natCast, Nat.gcd_mul_right]
  rw [make_pos (Nat.mul_pos hb hk), make_pos hb, e, Nat.mul_div_mul_right _ _ hk, Int.natCast_mul, Int.mul_ediv_mul_of_pos_left _ _ (by omega)]
theorem make_cross {a c : Int} {b d : Nat} (hb : 0 < b) (hd : 0 < d) (h : a * d = c * b) : make a b = make c d := by
  rw [← make_scale a hb hd, ← make_scale c hd hb, h, Nat.mul_comm b d]
theorem den_pos {a : Int} {b : Nat} (hb : 0 < b) : 0 < (make a b).den := by
  rw [make_den hb]
  exact Nat.div_pos (Nat.le_of_dvd hb (Nat.gcd_dvd_right _ _)) (gpos hb)
theorem make_back {a : Int} {b : Nat} (hb : 0 < b) : (make a b).num * b = a * (make a b).den := by
  rw [make_num hb, make_den hb]
  generalize hg : Nat.gcd a.natAbs b = g
  have h1 : g ∣ b := hg ▸ Nat.gcd_dvd_right _ _
  have h2 : (g : Int) ∣ a := Int.natAbs_dvd_natAbs.mp (by rw [Int.natAbs_natCast]; exact hg ▸ Nat.gcd_dvd_left _ _)
  have hgp : 0 < g := hg ▸ gpos hb
  obtain ⟨k, rfl⟩ := h1
  obtain ⟨l, rfl⟩ := h2
  rw [Int.mul_ediv_cancel_left _ (by omega), Nat.mul_div_cancel_left _ hgp]
  grind
theorem dvd_int {g : Nat} {a : Int} (h : g ∣ a.natAbs) : (g : Int) ∣ a := Int.natAbs_dvd_natAbs.mp (by rw [Int.natAbs_natCast]; exact h)
theorem make_again {a : Int} {b : Nat} (hb : 0 < b) : make (make a b).num (make a b).den = make a b :=
  make_cross (den_pos hb) hb (make_back hb)
theorem add_make {a c : Int} {b d : Nat} (hb : 0 < b) (hd : 0 < d) : make a b + make c d = make (a * d + c * b) (b * d) := by
  show make ((make a b).num * (make c d).den + (make c d).num * (make a b).den) ((make a b).den * (make c d).den) = _
  have e1 := make_back (a := a) hb
  have e2 := make_back (a := c) hd
  refine make_cross (Nat.mul_pos (den_pos hb) (den_pos hd)) (Nat.mul_pos hb hd) ?_
  rw [Int.natCast_mul, Int.natCast_mul]
  grind
theorem mul_make {a c : Int} {b d : Nat} (hb : 0 < b) (hd : 0 < d) : make a b * make c d = make (a * c) (b * d) := by
  show make ((make a b).num * (make c d).num) ((make a b).den * (make c d).den) = _
  have e1 := make_back (a := a) hb
  have e2 := make_back (a := c) hd
  refine make_cross (Nat.mul_pos (den_pos hb) (den_pos hd)) (Nat.mul_pos hb hd) ?_
  rw [Int.natCast_mul, Int.natCast_mul]
  grind
theorem neg_make {a : Int} {b : Nat} (hb : 0 < b) : Rational.neg (make a b) = make (-a) b := by
  rw [make_pos hb, make_pos hb, Int.natAbs_neg]
  show (⟨-(a / (Nat.gcd a.natAbs b : Nat)), b / Nat.gcd a.natAbs b⟩ : Rational) = _
  rw [Int.neg_ediv_of_dvd (dvd_int (Nat.gcd_dvd_left _ _))]
theorem sub_make {a c : Int} {b d : Nat} (hb : 0 < b) (hd : 0 < d) : make a b - make c d = make (a * d - c * b) (b * d) := by
  show make a b + Rational.neg (make c d) = _
  rw [neg_make hd, add_make hb hd]
  congr 1
  grind
theorem make_one (v : Int) : make v 1 = ⟨v, 1⟩ := by
  rw [make_pos (by omega), Nat.gcd_one_right]
  show (⟨v / 1, 1⟩ : Rational) = _
  rw [Int.ediv_one]
theorem ofInt_make (v : Int) : Rational.ofInt v = make v 1 := (make_one v).symm
theorem ofNat_make (v : Nat) : Rational.ofNat v = make (v : Int) 1 := (make_one v).symm
theorem zero_make {d : Nat} (hd : 0 < d) : Rational.zero = make 0 d := by
  rw [show make 0 d = make 0 1 from make_cross hd (by omega) (by omega), make_one]
  rfl
theorem add_same {a c : Int} {d : Nat} (hd : 0 < d) : make a d + make c d = make (a + c) d := by
  rw [add_make hd hd]
  refine make_cross (Nat.mul_pos hd hd) hd ?_
  rw [Int.natCast_mul]
  grind
theorem foldl_make {α : Type} {d : Nat} (hd : 0 < d) (f : α → Int) : ∀ (l : List α) (s : Int), (l.map fun a => make (f a) d).foldl Rational.add (make s d) = make (s + (l.map f).sum) d
  | [], s => by simp
  | x :: r, s => by
    show (r.map fun a => make (f a) d).foldl Rational.add (make s d + make (f x) d) = _
    rw [add_same hd, foldl_make hd f r]
    congr 1
    simp only [List.map_cons, List.sum_cons]
    omega
theorem sum_make {α : Type} {d : Nat} (hd : 0 < d) (f : α → Int) (l : List α) : Rational.sum (l.map fun a => make (f a) d) = make (l.map f).sum d := by
  show (l.map fun a => make (f a) d).foldl Rational.add Rational.zero = _
  rw [zero_make hd, foldl_make hd, Int.zero_add]
/-! ### the program's own numbers, over plain lists -/
/-- the pairs of so many components -/
def prs (n : Nat) : List (Nat × Nat) := (List.range n).flatMap fun i => (List.range (n - (i + 1))).map fun j => (i, i + 1 + j)
def inter (ps : List Int) (p : Nat × Nat) (b : Int) : Int := 4 * b - 2 * (ps.getD p.1 0 + ps.getD p.2 0)
def inters (ps bs : List Int) : List Int := List.zipWith (inter ps) (prs ps.length) bs
def alone (ps xs : List Int) : Int := (List.zipWith (fun a b => a * b) ps xs).sum
def term (xs : List Int) (p : Nat × Nat) (z : Int) : Int := z * xs.getD p.1 0 * xs.getD p.2 0
def together (ps bs xs : List Int) : Int := (List.zipWith (term xs) (prs ps.length) (inters ps bs)).sum
def scaled (ps bs xs : List Int) : Int := xs.sum * alone ps xs + together ps bs xs
def predicted (ps bs xs : List Int) : Rational := make (scaled ps bs xs) (xs.sum * xs.sum).toNat
def combined (xs ys : List Int) (k m : Int) : List Int := List.zipWith (fun a b => k * ys.sum * a + m * xs.sum * b) xs ys
def within (lo hi x : Int) : Bool := decide (lo ≤ x) && decide (x ≤ hi)
def given (ps bs : List Int) : Bool := decide (1 ≤ ps.length) && decide (ps.length ≤ 4) && decide (2 * bs.length = ps.length * (ps.length - 1)) && ps.all (within (-999) 999) && bs.all (within (-999) 999)
def mixture (n : Nat) (xs : List Int) : Bool := decide (xs.length = n) && decide (xs.sum ≠ 0) && xs.all (within 0 99)
end Pb
/-! The specification's answers are the program's own numbers. -/
namespace Pb
open Ks604 (Rational)
open Ks604.Rational (make)
/-! ### lists of one to four items -/
theorem len_cases {α : Type} {l : List α} (h1 : 1 ≤ l.length) (h4 : l.length ≤ 4) : (∃ a, l = [a]) ∨ (∃ a b, l = [a, b]) ∨ (∃ a b c, l = [a, b, c]) ∨ (∃ a b c d, l = [a, b, c, d]) := by
  match l, h1, h4 with
  | [a], _, _ => exact .inl ⟨a, rfl⟩
  | [a, b], _, _ => exact .inr (.inl ⟨a, b, rfl⟩)
  | [a, b, c], _, _ => exact .inr (.inr (.inl ⟨a, b, c, rfl⟩))
  | [a, b, c, d], _, _ => exact .inr (.inr (.inr ⟨a, b, c, d, rfl⟩))
/-! ### the predicted response -/
theorem getD_make {S : Nat} (hS : 0 < S) (xs : List Int) (i : Nat) : (xs.map fun c => make c S).getD i Rational.zero = make (xs.getD i 0) S := by
  rw [List.getD_eq_getElem?_getD, List.getD_eq_getElem?_getD, List.getElem?_map]
  cases xs[i]? with
  | none => exact zero_make hS
  | some c => rfl
theorem mul_one_make {a c : Int} {d : Nat} (hd : 0 < d) : make a d * make c 1 = make (a * c) d := by
  rw [mul_make hd (by omega), Nat.mul_one]
def binI (r : Ks608.Responses) (i j : Nat) : Int := r.binary.getD (Ks608.pairIndex r.pure.length (min i j) (max i j)) 0
theorem inter_make (r : Ks608.Responses) (i j : Nat) : Ks608.interaction r i j = make (4 * binI r i j - 2 * (r.pure.getD i 0 + r.pure.getD j 0)) 1 := by
  show Rational.ofInt 4 * Rational.ofInt (binI r i j) - Rational.ofInt 2 * (Rational.ofInt (r.pure.getD i 0) + Rational.ofInt (r.pure.getD j 0)) = _
  rw [ofInt_make, ofInt_make, ofInt_make, ofInt_make, ofInt_make, mul_make (by omega) (by omega), add_make (by omega) (by omega), mul_make (by omega) (by omega), sub_make (by omega) (by omega)]
  congr 1
  grind
def sum1 (r : Ks608.Responses) (xs : List Int) : Int := ((List.range r.pure.length).map fun i => xs.getD i 0 * r.pure.getD i 0).sum
def sum2 (r : Ks608.Responses) (xs : List Int) : Int := ((Ks608.allPairs r.pure.length).map fun p => (4 * binI r p.1 p.2 - 2 * (r.pure.getD p.1 0 + r.pure.getD p.2 0)) * (xs.getD p.1 0 * xs.getD p.2 0)).sum
theorem predict_make (r : Ks608.Responses) (xs : List Int) {S : Nat} (hS : 0 < S) : Ks608.predict r (xs.map fun c => make c S) = make ((S : Int) * sum1 r xs + sum2 r xs) (S * S) := by
  have hSS : 0 < S * S := Nat.mul_pos hS hS
  have e1 : ((List.range (Ks608.componentCount r)).map fun i => (xs.map fun c => make c S).getD i Rational.zero * Ks608.pureResponse r i) = (List.range r.pure.length).map fun i => make (xs.getD i 0 * r.pure.getD i 0) S := by
    refine List.map_congr_left fun i _ => ?_
    rw [getD_make hS]
    show _ * Rational.ofInt (r.pure.getD i 0) = _
    rw [ofInt_make, mul_one_make hS]
  have e2 : ((Ks608.allPairs (Ks608.componentCount r)).map fun p => Ks608.interaction r p.1 p.2 * ((xs.map fun c => make c S).getD p.1 Rational.zero * (xs.map fun c => make c S).getD p.2 Rational.zero)) =
      (Ks608.allPairs r.pure.length).map fun p => make ((4 * binI r p.1 p.2 - 2 * (r.pure.getD p.1 0 + r.pure.getD p.2 0)) * (xs.getD p.1 0 * xs.getD p.2 0)) (S * S) := by
    refine List.map_congr_left fun p _ => ?_
    rw [getD_make hS, getD_make hS, inter_make, mul_make hS hS, mul_make (by omega) hSS, Nat.one_mul]
  show Rational.sum _ + Rational.sum _ = _
  rw [e1, e2, sum_make hS, sum_make hSS]
  show make (sum1 r xs) S + make (sum2 r xs) (S * S) = _
  rw [add_make hS hSS]
  refine make_cross (Nat.mul_pos hS hSS) hSS ?_
  simp only [Int.natCast_mul]
  grind
theorem sums_scaled {ps bs xs : List Int} (h1 : 1 ≤ ps.length) (h4 : ps.length ≤ 4) (hb : 2 * bs.length = ps.length * (ps.length - 1)) (hx : xs.length = ps.length) :
    xs.sum * sum1 ⟨ps, bs⟩ xs + sum2 ⟨ps, bs⟩ xs = scaled ps bs xs := by
  rcases len_cases h1 h4 with ⟨a, rfl⟩ | ⟨a, b, rfl⟩ | ⟨a, b, c, rfl⟩ | ⟨a, b, c, d, rfl⟩
  · match xs, hx, bs, hb with
    | [x], _, [], _ =>
      show (x + 0) * (x * a + 0) + 0 = (x + 0) * (a * x + 0) + 0
      grind
  · match xs, hx, bs, hb with
    | [x, y], _, [s], _ =>
      show (x + (y + 0)) * (x * a + (y * b + 0)) + ((4 * s - 2 * (a + b)) * (x * y) + 0) = (x + (y + 0)) * (a * x + (b * y + 0)) + ((4 * s - 2 * (a + b)) * x * y + 0)
      grind
  · match xs, hx, bs, hb with
    | [x, y, z], _, [s, t, u], _ =>
      show (x + (y + (z + 0))) * (x * a + (y * b + (z * c + 0))) + ((4 * s - 2 * (a + b)) * (x * y) + ((4 * t - 2 * (a + c)) * (x * z) + ((4 * u - 2 * (b + c)) * (y * z) + 0))) =
        (x + (y + (z + 0))) * (a * x + (b * y + (c * z + 0))) + ((4 * s - 2 * (a + b)) * x * y + ((4 * t - 2 * (a + c)) * x * z + ((4 * u - 2 * (b + c)) * y * z + 0)))
      grind
  · match xs, hx, bs, hb with
    | [x, y, z, w], _, [s, t, u, v, p, q], _ =>
      show (x + (y + (z + (w + 0)))) * (x * a + (y * b + (z * c + (w * d + 0)))) + ((4 * s - 2 * (a + b)) * (x * y) + ((4 * t - 2 * (a + c)) * (x * z) + ((4 * u - 2 * (a + d)) * (x * w) + ((4 * v - 2 * (b + c)) * (y * z) + ((4 * p - 2 * (b + d)) * (y * w) + ((4 * q - 2 * (c + d)) * (z * w) + 0)))))) =
        (x + (y + (z + (w + 0)))) * (a * x + (b * y + (c * z + (d * w + 0)))) + ((4 * s - 2 * (a + b)) * x * y + ((4 * t - 2 * (a + c)) * x * z + ((4 * u - 2 * (a + d)) * x * w + ((4 * v - 2 * (b + c)) * y * z + ((4 * p - 2 * (b + d)) * y * w + ((4 * q - 2 * (c + d)) * z * w + 0))))))
      grind
theorem predict_is {ps bs xs : List Int} (h1 : 1 ≤ ps.length) (h4 : ps.length ≤ 4) (hb : 2 * bs.length = ps.length * (ps.length - 1)) (hx : xs.length = ps.length) (hS : 0 < xs.sum) :
    Ks608.predict ⟨ps, bs⟩ (xs.map fun c => make c xs.sum.toNat) = predicted ps bs xs := by
  have e : (xs.sum.toNat : Int) = xs.sum := by omega
  rw [predict_make _ _ (show 0 < xs.sum.toNat by omega), e, sums_scaled h1 h4 hb hx]
  unfold predicted
  rw [Int.toNat_mul (by omega) (by omega)]
end Pb
/-! What is due, call by call, in the program's own numbers. -/
namespace Pb
open Ks604 (Rational)
open Ks604.Rational (make)
theorem within_iff {lo hi x : Int} : within lo hi x = true ↔ lo ≤ x ∧ x ≤ hi := by
  unfold within
  rw [Bool.and_eq_true, decide_eq_true_iff, decide_eq_true_iff]
theorem given_iff {ps bs : List Int} : given ps bs = true ↔ 1 ≤ ps.length ∧ ps.length ≤ 4 ∧ 2 * bs.length = ps.length * (ps.length - 1) ∧ (∀ x ∈ ps, -999 ≤ x ∧ x ≤ 999) ∧ ∀ x ∈ bs, -999 ≤ x ∧ x ≤ 999 := by
  unfold given
  simp only [Bool.and_eq_true, decide_eq_true_eq, List.all_eq_true, within_iff]
  constructor
  · rintro ⟨⟨⟨⟨a, b⟩, c⟩, d⟩, e⟩
    exact ⟨a, b, c, d, e⟩
  · rintro ⟨a, b, c, d, e⟩
    exact ⟨⟨⟨⟨a, b⟩, c⟩, d⟩, e⟩
theorem mixture_iff {n : Nat} {xs : List Int} : mixture n xs = true ↔ xs.length = n ∧ xs.sum ≠ 0 ∧ ∀ x ∈ xs, 0 ≤ x ∧ x ≤ 99 := by
  unfold mixture
  simp only [Bool.and_eq_true, decide_eq_true_eq, List.all_eq_true, within_iff]
  constructor
  · rintro ⟨⟨a, b⟩, c⟩
    exact ⟨a, b, c⟩
  · rintro ⟨a, b, c⟩
    exact ⟨⟨a, b⟩, c⟩
theorem parse_is (ps bs : List Int) : Ks608.parseResponses ps bs = if given ps bs = true then some ⟨ps, bs⟩ else none := by
  unfold Ks608.parseResponses
  by_cases h : given ps bs = true
  · rw [if_pos h, if_neg]
    rw [given_iff] at h
    obtain ⟨a, b, c, d, e⟩ := h
    rintro (z | z | z | z)
    · omega
    · exact absurd z (Nat.not_lt.mpr b)
    · exact z c
    · rw [List.any_eq_true] at z
      obtain ⟨x, hx, hz⟩ := z
      have hz := of_decide_eq_true hz
      rcases List.mem_append.mp hx with q | q
      · have := d x q
        omega
      · have := e x q
        omega
  · rw [if_neg h, if_pos]
    refine Classical.byContradiction fun z => h ?_
    simp only [not_or, List.any_eq_true, not_exists, not_and, decide_eq_true_eq] at z
    obtain ⟨a, b, c, d⟩ := z
    refine given_iff.mpr ⟨by omega, Nat.not_lt.mp b, Classical.not_not.mp c, fun x hx => ?_, fun x hx => ?_⟩
    · have := d x (List.mem_append_left _ hx)
      omega
    · have := d x (List.mem_append_right _ hx)
      omega
theorem sum_nonneg : ∀ {xs : List Int}, (∀ x ∈ xs, 0 ≤ x) → 0 ≤ xs.sum
  | [], _ => Int.le_refl _
  | x :: r, h => by
    have h1 := h x List.mem_cons_self
    have h2 := sum_nonneg (xs := r) fun y hy => h y (List.mem_cons_of_mem _ hy)
    rw [List.sum_cons]
    omega
theorem sum_toNat : ∀ {xs : List Int}, (∀ x ∈ xs, 0 ≤ x) → (xs.map Int.toNat).sum = xs.sum.toNat
  | [], _ => rfl
  | x :: r, h => by
    have h1 := h x List.mem_cons_self
    have h2 := sum_nonneg (xs := r) fun y hy => h y (List.mem_cons_of_mem _ hy)
    rw [List.map_cons, List.sum_cons, List.sum_cons, sum_toNat fun y hy => h y (List.mem_cons_of_mem _ hy)]
    omega
theorem mixture_is {ps bs ms : List Int} (h : ∀ x ∈ ms, 0 ≤ x) : Ks608.isValidMixture ⟨ps, bs⟩ (ms.map Int.toNat) = mixture ps.length ms := by
  have h0 := sum_nonneg h
  rw [Bool.eq_iff_iff, mixture_iff]
  unfold Ks608.isValidMixture
  rw [sum_toNat h]
  simp only [Bool.and_eq_true, beq_iff_eq, decide_eq_true_eq, List.all_eq_true, List.length_map, List.mem_map, forall_exists_index, and_imp, forall_apply_eq_imp_iff₂]
  show (ms.length = ps.length ∧ _) ∧ _ ↔ _
  constructor
  · rintro ⟨⟨a, b⟩, c⟩
    exact ⟨a, by omega, fun x hx => ⟨h x hx, by have := b x hx; omega⟩⟩
  · rintro ⟨a, b, c⟩
    exact ⟨⟨a, fun x hx => by have := c x hx; omega⟩, by omega⟩
theorem fractions_is {ms : List Int} (h : ∀ x ∈ ms, 0 ≤ x) : Ks608.fractions (ms.map Int.toNat) = ms.map fun c => make c ms.sum.toNat := by
  unfold Ks608.fractions
  rw [sum_toNat h, List.map_map]
  refine List.map_congr_left fun x hx => ?_
  have := h x hx
  show make ((x.toNat : Nat) : Int) _ = _
  rw [Int.toNat_of_nonneg this]
/-- what a rational number is told as -/
def told (q : Rational) : List Int := [q.num, (q.den : Int)]
theorem mix_pos {n : Nat} {xs : List Int} (h : mixture n xs = true) : 0 < xs.sum := by
  obtain ⟨a, b, c⟩ := mixture_iff.mp h
  have := sum_nonneg fun x hx => (c x hx).1
  omega
def aPredict (ps bs ms : List Int) : List Int := if (given ps bs && mixture ps.length ms) = true then 0 :: told (predicted ps bs ms) else [-22]
theorem aPredict_is {ps bs ms : List Int} (h : ∀ x ∈ ms, 0 ≤ x) : PyKs608.predict ps bs ms = aPredict ps bs ms := by
  show Ks608Neutral.integers (Ks608.withResponses ps bs fun r => if Ks608.isValidMixture r (ms.map Int.toNat) = false then Ks608.number (-22) else { value := 0, rest := Ks604.pairs [Ks608.predict r (Ks608.fractions (ms.map Int.toNat))] }) = _
  unfold Ks608.withResponses aPredict
  rw [parse_is]
  by_cases g : given ps bs = true
  · rw [if_pos g]
    simp only
    rw [mixture_is h, g, Bool.true_and]
    by_cases m : mixture ps.length ms = true
    · obtain ⟨h1, h4, hb, _, _⟩ := given_iff.mp g
      rw [if_pos m, m, if_neg (by simp), fractions_is h, predict_is h1 h4 hb (mixture_iff.mp m).1 (mix_pos m)]
      rfl
    · rw [if_neg m, if_pos (by simpa using m)]
      rfl
  · rw [if_neg g, if_neg (by simp [g])]
    rfl
/-! ### interactions -/
def aInteractions (ps bs : List Int) : List Int := if given ps bs = true then (bs.length : Int) :: (inters ps bs).flatMap fun z => [z, 1] else [-22]
theorem inters_is {ps bs : List Int} (h1 : 1 ≤ ps.length) (h4 : ps.length ≤ 4) (hb : 2 * bs.length = ps.length * (ps.length - 1)) :
    ((Ks608.allPairs ps.length).map fun p => 4 * binI ⟨ps, bs⟩ p.1 p.2 - 2 * (ps.getD p.1 0 + ps.getD p.2 0)) = inters ps bs := by
  rcases len_cases h1 h4 with ⟨a, rfl⟩ | ⟨a, b, rfl⟩ | ⟨a, b, c, rfl⟩ | ⟨a, b, c, d, rfl⟩
  · match bs, hb with
    | [], _ => rfl
  · match bs, hb with
    | [s], _ => rfl
  · match bs, hb with
    | [s, t, u], _ => rfl
  · match bs, hb with
    | [s, t, u, v, p, q], _ => rfl
theorem aInteractions_is (ps bs : List Int) : PyKs608.interactions ps bs = aInteractions ps bs := by
  show Ks608Neutral.integers (Ks608.withResponses ps bs fun r => { value := (Ks608.allPairs (Ks608.componentCount r)).length, rest := Ks604.pairs ((Ks608.allPairs (Ks608.componentCount r)).map fun p => Ks608.interaction r p.1 p.2) }) = _
  unfold Ks608.withResponses aInteractions
  rw [parse_is]
  by_cases g : given ps bs = true
  · rw [if_pos g, if_pos g]
    obtain ⟨h1, h4, hb, _, _⟩ := given_iff.mp g
    have hl : (Ks608.allPairs ps.length).length = bs.length := by
      have : ∀ n, 1 ≤ n → n ≤ 4 → 2 * (Ks608.allPairs n).length = n * (n - 1) := by
        intro n a b
        match n, a, b with
        | 1, _, _ => rfl
        | 2, _, _ => rfl
        | 3, _, _ => rfl
        | 4, _, _ => rfl
      have := this _ h1 h4
      omega
    show ((Ks608.allPairs ps.length).length : Int) :: Ks604.pairs _ = _
    rw [hl, ← inters_is h1 h4 hb]
    refine congrArg _ ?_
    unfold Ks604.pairs
    rw [List.flatMap_map, List.flatMap_map]
    refine congrArg (fun f => List.flatMap f (Ks608.allPairs ps.length)) (funext fun p => ?_)
    rw [inter_make, make_one]
    rfl
  · rw [if_neg g, if_neg g]
    rfl
/-! ### synergies -/
/-- the loop's list: the partners of a component -/
def partner (c : Int) (p : Nat × Nat) (z : Int) : List Int := (if decide (0 < z) && decide ((p.1 : Int) = c) then [(p.2 : Int)] else []) ++ (if decide (0 < z) && decide ((p.2 : Int) = c) then [(p.1 : Int)] else [])
def partners (ps bs : List Int) (c : Int) : List Int := (List.zipWith (partner c) (prs ps.length) (inters ps bs)).flatten
def aSynergies (c : Int) (ps bs : List Int) : List Int := if given ps bs = true then (if (ps.length : Int) ≤ c then [-2] else ((partners ps bs c).length : Int) :: partners ps bs c) else [-22]
theorem lt_zero_make (v : Int) : Rational.lt Rational.zero (make v 1) = decide (0 < v) := by
  rw [make_one]
  show decide ((0 : Int) * (1 : Nat) < v * (1 : Nat)) = _
  congr 1
  simp
theorem synergies_is (ps bs : List Int) (i : Nat) : Ks608.synergies ⟨ps, bs⟩ i = (List.range ps.length).filter fun j => j != i && decide (0 < 4 * binI ⟨ps, bs⟩ (min i j) (max i j) - 2 * (ps.getD (min i j) 0 + ps.getD (max i j) 0)) := by
  unfold Ks608.synergies
  refine congrArg (fun f => List.filter f (List.range ps.length)) (funext fun j => ?_)
  rw [inter_make, lt_zero_make]
theorem filt {p : Nat → Bool} {i : Nat} {r : List Nat} : (i :: r).filter p = (if p i = true then [i] else []) ++ r.filter p := by
  rw [List.filter_cons]
  split <;> rfl
theorem partners_is {ps bs : List Int} (h1 : 1 ≤ ps.length) (h4 : ps.length ≤ 4) (hb : 2 * bs.length = ps.length * (ps.length - 1)) {i : Nat} (hi : i < ps.length) :
    (Ks608.synergies ⟨ps, bs⟩ i).map Int.ofNat = partners ps bs i := by
  rw [synergies_is]
  rcases len_cases h1 h4 with ⟨a, rfl⟩ | ⟨a, b, rfl⟩ | ⟨a, b, c, rfl⟩ | ⟨a, b, c, d, rfl⟩
  · match bs, hb, i, hi with
    | [], _, 0, _ => rfl
  · obtain ⟨s, rfl⟩ : ∃ s, bs = [s] := match bs, hb with
      | [s], _ => ⟨s, rfl⟩
    have q : i = 0 ∨ i = 1 := by
      have hi : i < 2 := hi
      omega
    rcases q with rfl | rfl <;>
      (simp [partners, partner, prs, inters, inter, binI, Ks608.pairIndex, List.range, List.range.loop, filt]
       try ((repeat' split) <;> simp_all))
  · obtain ⟨s, t, u, rfl⟩ : ∃ s t u, bs = [s, t, u] := match bs, hb with
      | [s, t, u], _ => ⟨s, t, u, rfl⟩
    have q : i = 0 ∨ i = 1 ∨ i = 2 := by
      have hi : i < 3 := hi
      omega
    rcases q with rfl | rfl | rfl <;>
      (simp [partners, partner, prs, inters, inter, binI, Ks608.pairIndex, List.range, List.range.loop, filt]
       try ((repeat' split) <;> simp_all))
  · obtain ⟨s, t, u, v, p, q, rfl⟩ : ∃ s t u v p q, bs = [s, t, u, v, p, q] := match bs, hb with
      | [s, t, u, v, p, q], _ => ⟨s, t, u, v, p, q, rfl⟩
    have z : i = 0 ∨ i = 1 ∨ i = 2 ∨ i = 3 := by
      have hi : i < 4 := hi
      omega
    rcases z with rfl | rfl | rfl | rfl <;>
      (simp [partners, partner, prs, inters, inter, binI, Ks608.pairIndex, List.range, List.range.loop, filt]
       try ((repeat' split) <;> simp_all))
end Pb
/-! What is due: synergies, count_mixtures, predict_combination. -/
namespace Pb
open Ks604 (Rational)
open Ks604.Rational (make)
theorem aSynergies_is {c : Int} (hc : 0 ≤ c) (ps bs : List Int) : PyKs608.synergies c ps bs = aSynergies c ps bs := by
  show Ks608Neutral.integers (Ks608.withResponses ps bs fun r => if Ks608.componentCount r ≤ c.toNat then Ks608.number (-2) else Ks604.listResult (Ks608.synergies r c.toNat)) = _
  unfold Ks608.withResponses aSynergies
  rw [parse_is]
  by_cases g : given ps bs = true
  · rw [if_pos g, if_pos g]
    obtain ⟨h1, h4, hb, _, _⟩ := given_iff.mp g
    show Ks608Neutral.integers (if ps.length ≤ c.toNat then Ks608.number (-2) else Ks604.listResult (Ks608.synergies ⟨ps, bs⟩ c.toNat)) = _
    by_cases hi : ps.length ≤ c.toNat
    · rw [if_pos hi, if_pos (by omega)]
      rfl
    · rw [if_neg hi, if_neg (by omega)]
      have e := partners_is h1 h4 hb (i := c.toNat) (by omega)
      rw [show ((c.toNat : Nat) : Int) = c by omega] at e
      rw [← e, List.length_map]
      rfl
  · rw [if_neg g, if_neg g]
    rfl
theorem partners_up {ps bs : List Int} {c : Int} (g : given ps bs = true) (hc : 0 ≤ c) (hl : ¬ (ps.length : Int) ≤ c) : (partners ps bs c).Pairwise fun a b => a ≤ b := by
  obtain ⟨h1, h4, hb, _, _⟩ := given_iff.mp g
  have e := partners_is h1 h4 hb (i := c.toNat) (by omega)
  rw [show ((c.toNat : Nat) : Int) = c by omega] at e
  rw [← e, List.pairwise_map]
  refine List.Pairwise.imp (R := fun a b => a < b) (fun {a b} h => ?_) (List.Pairwise.filter _ List.pairwise_lt_range)
  show (a : Int) ≤ (b : Int)
  omega
/-- two lists in order with the same items are one -/
theorem perm_up {l r : List Int} (p : l.Perm r) (hl : l.Pairwise fun a b => a ≤ b) (hr : r.Pairwise fun a b => a ≤ b) : l = r :=
  p.eq_of_pairwise (fun a b _ _ h h' => by omega) hl hr
/-! ### count_mixtures -/
def cnt (p : Int) : Nat → Int
  | 0 => 1
  | j + 1 => (cnt p j * (p + ((j : Int) + 1))) / ((j : Int) + 1)
def counted (c p : Int) : Bool := within 1 4 c && within 0 20 p
def aCount (c p : Int) : List Int := if counted c p = true then [cnt p (c - 1).toNat] else [-22]
def mlen : Nat → Nat → Nat
  | 0, p => if p = 0 then 1 else 0
  | n + 1, p => ((List.range (p + 1)).map fun f => mlen n (p - f)).sum
theorem mlen_is : ∀ n p, (Ks608.mixtures n p).length = mlen n p
  | 0, p => by
    unfold Ks608.mixtures mlen
    split <;> rfl
  | n + 1, p => by
    unfold Ks608.mixtures mlen
    rw [List.length_flatMap]
    refine congrArg List.sum (List.map_congr_left fun f _ => ?_)
    rw [List.length_map, mlen_is n]
theorem count_all : ∀ c : Fin 5, ∀ p : Fin 21, 1 ≤ c.val → (mlen c.val p.val : Int) = cnt (p.val : Int) (c.val - 1) := by decide +kernel
theorem aCount_is {c p : Int} (hp : 0 ≤ p) : PyKs608.count_mixtures c p = aCount c p := by
  show Ks608Neutral.integers (if c.toNat < 1 ∨ 4 < c.toNat ∨ 20 < p.toNat then Ks608.number (-22) else Ks608.number (Ks608.mixtures c.toNat p.toNat).length) = _
  unfold aCount
  by_cases h : counted c p = true
  · have h' := h
    unfold counted at h'
    rw [Bool.and_eq_true, within_iff, within_iff] at h'
    rw [if_pos h, if_neg (by omega)]
    have e := count_all ⟨c.toNat, by omega⟩ ⟨p.toNat, by omega⟩ (by show 1 ≤ c.toNat; omega)
    show [((Ks608.mixtures c.toNat p.toNat).length : Int)] = _
    rw [mlen_is, e, show ((p.toNat : Nat) : Int) = p by omega, show c.toNat - 1 = (c - 1).toNat by omega]
  · have h' := h
    unfold counted at h'
    rw [Bool.and_eq_true, within_iff, within_iff] at h'
    rw [if_neg h, if_pos (by omega)]
    rfl
/-! ### predict_combination -/
def share (k : Int) : Bool := within 1 99 k
def mean (a b : Rational) (k m : Int) : Rational := make (k * a.num * b.den + m * b.num * a.den) ((k + m) * a.den * b.den).toNat
def aCombination (k m : Int) (ps bs xs ys : List Int) : List Int :=
  if (given ps bs && share k && share m && (mixture ps.length xs && mixture ps.length ys)) = true then
    0 :: told (predicted ps bs (combined xs ys k m)) ++ told (mean (predicted ps bs xs) (predicted ps bs ys) k m)
  else [-22]
theorem combined_len {xs ys : List Int} {k m : Int} (h : xs.length = ys.length) : (combined xs ys k m).length = xs.length := by
  unfold combined
  rw [List.length_zipWith]
  omega
theorem zip_sum (a b : Int) : ∀ {xs ys : List Int}, xs.length = ys.length → (List.zipWith (fun x y => a * x + b * y) xs ys).sum = a * xs.sum + b * ys.sum
  | [], [], _ => by simp
  | x :: r, y :: s, h => by
    have ih := zip_sum a b (xs := r) (ys := s) (by simpa using h)
    simp only [List.zipWith_cons_cons, List.sum_cons, ih]
    grind
theorem combined_sum {xs ys : List Int} {k m : Int} (h : xs.length = ys.length) : (combined xs ys k m).sum = (k + m) * (xs.sum * ys.sum) := by
  unfold combined
  rw [zip_sum _ _ h]
  grind
theorem combine_is {xs ys : List Int} {k m : Int} (hk : 0 < k) (hm : 0 < m) (h : xs.length = ys.length) (h1 : 0 < xs.sum) (h2 : 0 < ys.sum) :
    Ks608.combine k.toNat m.toNat (xs.map fun c => make c xs.sum.toNat) (ys.map fun c => make c ys.sum.toNat) = (combined xs ys k m).map fun c => make c (combined xs ys k m).sum.toNat := by
  rw [combined_sum h]
  unfold Ks608.combine combined
  rw [List.map_zipWith]
  generalize hX : xs.sum = X at *
  generalize hY : ys.sum = Y at *
  have hXY := Int.mul_pos h1 h2
  have hkm : 0 < (k + m) * (X * Y) := Int.mul_pos (by omega) hXY
  clear hX hY
  induction xs generalizing ys with
  | nil => rfl
  | cons x r ih =>
    match ys, h with
    | y :: s, h =>
      simp only [List.map_cons, List.zip_cons_cons, List.zipWith_cons_cons]
      refine congr (congrArg List.cons ?_) (ih (by simpa using h))
      have eX : ((X.toNat : Nat) : Int) = X := by omega
      have eY : ((Y.toNat : Nat) : Int) = Y := by omega
      rw [ofNat_make, ofNat_make, mul_make (by omega) (by omega), mul_make (by omega) (by omega), add_make (by omega) (by omega), mul_make (Nat.mul_pos (by omega) (by omega)) (by omega)]
      refine make_cross (Nat.mul_pos (Nat.mul_pos (by omega) (by omega)) (by omega)) (by omega) ?_
      simp only [Int.natCast_mul, Int.natCast_add]
      rw [show (((k + m) * (X * Y)).toNat : Int) = (k + m) * (X * Y) by omega, show ((k.toNat : Nat) : Int) = k by omega, show ((m.toNat : Nat) : Int) = m by omega, eX, eY]
      grind
theorem told_pos (ps bs xs : List Int) (h : 0 < xs.sum) : 0 < (predicted ps bs xs).den ∧ make (predicted ps bs xs).num (predicted ps bs xs).den = predicted ps bs xs := by
  have q : 0 < (xs.sum * xs.sum).toNat := by
    have := Int.mul_pos h h
    omega
  exact ⟨den_pos q, make_again q⟩
theorem mean_is {a b : Rational} {k m : Int} (hk : 0 < k) (hm : 0 < m) (ha : 0 < a.den) (hb : 0 < b.den) (ea : make a.num a.den = a) (eb : make b.num b.den = b) :
    (Rational.ofNat k.toNat * a + Rational.ofNat m.toNat * b) * make 1 (k.toNat + m.toNat) = mean a b k m := by
  unfold mean
  have pa : (0 : Int) < a.den := by omega
  have pb : (0 : Int) < b.den := by omega
  have pq := Int.mul_pos (Int.mul_pos (show 0 < k + m by omega) pa) pb
  rw [← ea, ← eb, ofNat_make, ofNat_make, mul_make (by omega) ha, mul_make (by omega) hb, ea, eb, add_make (by omega) (by omega), mul_make (Nat.mul_pos (by omega) (by omega)) (by omega)]
  refine make_cross (Nat.mul_pos (Nat.mul_pos (by omega) (by omega)) (by omega)) (by omega) ?_
  simp only [Int.natCast_mul, Int.natCast_add]
  rw [show (((k + m) * (a.den : Int) * b.den).toNat : Int) = (k + m) * a.den * b.den by omega, show ((k.toNat : Nat) : Int) = k by omega, show ((m.toNat : Nat) : Int) = m by omega]
  grind
theorem aCombination_is {k m : Int} {ps bs xs ys : List Int} (hx : ∀ x ∈ xs, 0 ≤ x) (hy : ∀ x ∈ ys, 0 ≤ x) : PyKs608.predict_combination k m ps bs xs ys = aCombination k m ps bs xs ys := by
  show Ks608Neutral.integers (Ks608.withResponses ps bs fun r => if Ks608.isValidMixture r (xs.map Int.toNat) = false ∨ Ks608.isValidMixture r (ys.map Int.toNat) = false ∨ Ks608.isValidProportion k.toNat m.toNat = false then Ks608.number (-22)
    else { value := 0, rest := Ks604.pairs [Ks608.predict r (Ks608.combine k.toNat m.toNat (Ks608.fractions (xs.map Int.toNat)) (Ks608.fractions (ys.map Int.toNat))),
      (Rational.ofNat k.toNat * Ks608.predict r (Ks608.fractions (xs.map Int.toNat)) + Rational.ofNat m.toNat * Ks608.predict r (Ks608.fractions (ys.map Int.toNat))) * make 1 (k.toNat + m.toNat)] }) = _
  unfold Ks608.withResponses aCombination
  rw [parse_is]
  have ep : Ks608.isValidProportion k.toNat m.toNat = (share k && share m) := by
    rw [Bool.eq_iff_iff]
    unfold Ks608.isValidProportion share
    simp only [Bool.and_eq_true, decide_eq_true_eq, within_iff]
    omega
  by_cases g : given ps bs = true
  · rw [if_pos g]
    simp only
    rw [mixture_is hx, mixture_is hy, ep, g, Bool.true_and]
    by_cases c : (share k && share m && (mixture ps.length xs && mixture ps.length ys)) = true
    · rw [if_pos c]
      simp only [Bool.and_eq_true] at c
      obtain ⟨⟨c1, c2⟩, c3, c4⟩ := c
      obtain ⟨h1, h4, hb, _, _⟩ := given_iff.mp g
      have l1 := (mixture_iff.mp c3).1
      have l2 := (mixture_iff.mp c4).1
      have p1 := mix_pos c3
      have p2 := mix_pos c4
      have k1 := (within_iff.mp c1).1
      have m1 := (within_iff.mp c2).1
      rw [if_neg (by simp [c1, c2, c3, c4]), fractions_is hx, fractions_is hy, combine_is (by omega) (by omega) (l1.trans l2.symm) p1 p2,
        predict_is h1 h4 hb ((combined_len (l1.trans l2.symm)).trans l1) (by rw [combined_sum (l1.trans l2.symm)]; exact Int.mul_pos (by omega) (Int.mul_pos p1 p2)), predict_is h1 h4 hb l1 p1, predict_is h1 h4 hb l2 p2]
      have t1 := told_pos ps bs xs p1
      have t2 := told_pos ps bs ys p2
      rw [mean_is (by omega) (by omega) t1.1 t2.1 t1.2 t2.2]
      rfl
    · rw [if_neg c, if_pos]
      · rfl
      · revert c
        cases mixture ps.length xs <;> cases mixture ps.length ys <;> cases share k <;> cases share m <;> simp
  · rw [if_neg g, if_neg (by simp [g])]
    rfl
end Pb
namespace Pb
open PySem PySem.Spec PyProof.Rows L2
/-! ### words over the layer -/
/-- a def of the text by its name: where it stands, what it promises -/
def Has (P : Program) (w : World) (K : PySem.W.Frag) (mg : Str → Option Value) (base : Heap) (k : Nat) (x : Str) (ps : List Str) (sp : Sp) : Prop :=
  ∃ f fd, mg x = some (.ref f) ∧ PySem.W.keepIn K (.ref f) = true ∧ Binds K fd ps [] ∧ FnOk P w K mg base CX0 k f fd ps sp
/-- a call of it -/
theorem pe_has {X : Cx} {k j : Nat} {x : Str} {p pos : Pos} {e : Expr} {es : List Expr} {ps : List Str} {sp : Sp} {t : TA} (G : Has X.prog X.w X.K X.mg X.base j x ps sp) (hr : Room k X.A) (hjk : j ≤ k) (hg : Gl X x)
    (ha : PA X (e :: es) t) (hdb : (x == ("__debug__" : Str)) = false := by decide) (he : starEach (e :: es) X.env = (false, eval e X.env) :: starEach es X.env := by rfl) (hpl : (backTo pos (starEach es X.env)).any (·.1) = false := by rfl) :
    PE X (.Call (.Name x p) (e :: es) [] pos) (tCall sp [] E0 t) := by
  obtain ⟨f, fd, hm, hk, hb, F⟩ := G
  exact pe_call F (hr.mono hjk) hg hm hk hb .nil pass0 ha hdb he hpl
theorem same_upd {H : Hp} {p : Addr} {o : HO} (h : H p = none) : Same H (upd H p o) := fun b x e => by
  rw [upd_ne (ne_of_none e h)]
  exact e
/-- a change of what was not there at first -/
theorem same_new {H H' : Hp} {p : Addr} {o : HO} (s : Same H H') (h : H p = none) : Same H (upd H' p o) := fun b x e => by
  rw [upd_ne (ne_of_none e h)]
  exact s b x e
theorem Same.tup {K : PySem.W.Frag} {H H' : Hp} {a : Addr} {xs : List V} (e : Same H H') (h : SqT K H a xs) : SqT K H' a xs := by
  rcases h with (h | ⟨o, h⟩) | h
  · exact .inl (.inl (e _ _ h))
  · exact .inl (.inr ⟨o, e _ _ h⟩)
  · exact .inr h
end Pb
namespace Pb
open PySem PySem.Spec PyProof.Rows L2
/-- the i-th statement of the program's text -/
def topS (i : Nat) : Stmt := PySem.Challenge.pw_pairblend_s06_count_mixtures.main.body.getD i (.Pass ⟨0, 0, 0, 0⟩)
end Pb
namespace Pb
open PySem PySem.Spec PyProof.Rows L2
section
variable {P : Program} {w : World} {K : PySem.W.Frag} {mg : Str → Option Value} {base : Heap}
/-! ### is_within(number, least, most) -/
abbrev sWithin : Stmt := topS 3
theorem scWithin : FnScope ["number", "least", "most"] ["number", "least", "most"] (defScope sWithin) := ⟨rfl, rfl, rfl, by decide +kernel, rfl, by decide +kernel, by decide +kernel⟩
def spWithin : Sp := fun vs H Q _ => ∃ x lo hi : Int, vs = [.int x, .int lo, .int hi] ∧ Q (.bl (within lo hi x)) H
theorem ok_within {f : Addr} {fd : FuncData} (F : Fun K "is_within" "is_within" sWithin f fd) : FnOk P w K mg base CX0 1 f fd ["number", "least", "most"] spWithin := by
  refine F.ok scWithin (fun vs H Q E h => ?_) (fun cdv A outer s H vs Q E hr h => ?_)
  · obtain ⟨x, lo, hi, rfl, _⟩ := h
    rfl
  · obtain ⟨x, lo, hi, rfl, q⟩ := h
    refine ⟨_, pss_one (ps_ret (pe_and (pe_cmpR op_le (pv 1) (pv 0) (nomark _)) (pe_one (pe_cmpR op_le (pv 0) (pv 2) (nomark _))))), ?_⟩
    refine ⟨_, rfl, _, rfl, _, _, rfl, rfl, _, rfl, ite2 (fun e => ?_) (fun e => ?_)⟩
    · refine ⟨_, rfl, _, rfl, _, _, rfl, rfl, ?_⟩
      have q' := q
      unfold within at q'
      rw [e, Bool.true_and] at q'
      exact q'
    · have q' := q
      unfold within at q'
      rw [Bool.eq_false_iff.mpr e, Bool.false_and] at q'
      exact q'
end
end Pb
namespace Pb
open PySem PySem.Spec PyProof.Rows L2
section
variable {P : Program} {w : World} {K : PySem.W.Frag} {mg : Str → Option Value} {base : Heap}
/-! ### are_counted(components, parts) -/
abbrev sCounted : Stmt := topS 4
theorem scCounted : FnScope ["components", "parts"] ["components", "parts"] (defScope sCounted) := ⟨rfl, rfl, rfl, by decide +kernel, rfl, by decide +kernel, by decide +kernel⟩
def spCounted : Sp := fun vs H Q _ => ∃ c p : Int, vs = [.int c, .int p] ∧ Q (.bl (counted c p)) H
theorem ok_counted {f : Addr} {fd : FuncData} (F : Fun K "are_counted" "are_counted" sCounted f fd) (W : Has P w K mg base 1 "is_within" ["number", "least", "most"] spWithin)
    (gC : ∃ t, mg "MOST_COMPONENTS" = some (.int 4 t)) (gM : ∃ t, mg "MOST_COUNTED" = some (.int 20 t)) : FnOk P w K mg base CX0 2 f fd ["components", "parts"] spCounted := by
  obtain ⟨t1, gC⟩ := gC
  obtain ⟨t2, gM⟩ := gM
  refine F.ok scCounted (fun vs H Q E h => ?_) (fun cdv A outer s H vs Q E hr h => ?_)
  · obtain ⟨x, lo, rfl, _⟩ := h
    rfl
  · obtain ⟨c, p, rfl, q⟩ := h
    refine ⟨_, pss_one (ps_ret (pe_and (pe_has W hr (by decide) (by rfl) (pa_cons (pv 0) (pa_cons pe_int (pa_cons (pe_glob (v := .int 4) (by rfl) gC ⟨_, rfl⟩) pa_nil))))
      (pe_one (pe_has W hr (by decide) (by rfl) (pa_cons (pv 1) (pa_cons pe_int (pa_cons (pe_glob (v := .int 20) (by rfl) gM ⟨_, rfl⟩) pa_nil))))))), ?_⟩
    refine ⟨_, rfl, _, _, _, rfl, _, rfl, ite2 (fun e => ?_) (fun e => ?_)⟩
    · refine ⟨_, rfl, _, _, _, rfl, ?_⟩
      unfold counted at q
      rw [e, Bool.true_and] at q
      exact q
    · unfold counted at q
      rw [Bool.eq_false_iff.mpr e, Bool.false_and] at q
      exact q
end
end Pb
namespace Pb
open PySem PySem.Spec PyProof.Rows L2
section
variable {P : Program} {w : World} {K : PySem.W.Frag} {mg : Str → Option Value} {base : Heap}
/-! ### mixture_count(components, parts) -/
abbrev sMixCount : Stmt := topS 6
theorem scMixCount : FnScope ["components", "parts", "found", "k"] ["components", "parts"] (defScope sMixCount) := ⟨rfl, rfl, rfl, by decide +kernel, rfl, by decide +kernel, by decide +kernel⟩
def spMixCount : Sp := fun vs H Q _ => ∃ c p : Int, vs = [.int c, .int p] ∧ (1 ≤ c ∧ c ≤ 4) ∧ (0 ≤ p ∧ p ≤ 20) ∧ Q (.int (cnt p (c - 1).toNat)) H
theorem ok_mixcount {f : Addr} {fd : FuncData} (F : Fun K "mixture_count" "mixture_count" sMixCount f fd) (mr : mg "range" = none) : FnOk P w K mg base CX0 1 f fd ["components", "parts"] spMixCount := by
  refine F.ok scMixCount (fun vs H Q E h => ?_) (fun cdv A outer s H vs Q E hr h => ?_)
  · obtain ⟨c, p, rfl, _⟩ := h
    rfl
  · obtain ⟨c, p, rfl, hc, hp, q⟩ := h
    refine ⟨_, pss_cons (ps_set (i := 2) scMixCount.nd rfl (.inl rfl) pe_int)
      (pss_cons (ps_for PassesOwn.never rfl (pi_range2 (by rfl) mr (pa_cons pe_int (pa_cons (pv 0) pa_nil))) (pg_name (i := 3) scMixCount.nd rfl (.inl rfl))
        (pss_one (ps_set (i := 2) scMixCount.nd rfl (.inl rfl) (pe_op op_fdiv (pe_op op_mul (pv 2) (pe_op op_add (pv 1) (pv 3))) (pv 3)))))
      (pss_one (ps_ret (pv 2)))), ?_⟩
    refine ⟨_, rfl, 1, c, rfl, (by omega), for_range (lo := 1) (n := (c - 1).toNat) (fun i σ H' => ∃ y, σ = [some (.int c), some (.int p), some (.int (cnt p i)), y] ∧ H' = H) ⟨none, rfl, rfl⟩ ?_ ?_⟩
    · rintro i σ H' hi ⟨y, rfl, rfl⟩
      refine ⟨_, rfl, _, rfl, _, rfl, p, 1 + (i : Int), rfl, rfl, _, _, rfl, rfl, .inr (by omega), _, rfl, _, _, rfl, rfl, ⟨by omega, by omega⟩, ?_⟩
      refine ⟨some (.int (1 + (i : Int))), ?_, rfl⟩
      have e : cnt p (i + 1) = cnt p i * (p + (1 + (i : Int))) / (1 + (i : Int)) := by
        show cnt p i * (p + ((i : Int) + 1)) / ((i : Int) + 1) = _
        rw [Int.add_comm (i : Int) 1]
      rw [e]
      rfl
    · rintro σ H' ⟨y, rfl, rfl⟩
      exact ⟨_, rfl, q⟩
end
end Pb
namespace Pb
open PySem PySem.Spec PyProof.Rows L2
section
variable {P : Program} {w : World} {K : PySem.W.Frag} {mg : Str → Option Value} {base : Heap}
/-! ### count_mixtures(components, parts) -/
abbrev sAns : Stmt := topS 9
theorem scAns : FnScope ["components", "parts"] ["components", "parts"] (defScope sAns) := ⟨rfl, rfl, rfl, by decide +kernel, rfl, by decide +kernel, by decide +kernel⟩
def spAns (_ : PySem.W.Frag) : Sp := fun vs H Q _ => ∃ c p : Int, vs = [.int c, .int p] ∧ ∀ H' l, H' l = some (.lst ((aCount c p).map V.int)) → Q (.ref l) H'
theorem ok_ans {f : Addr} {fd : FuncData} (F : Fun K "count_mixtures" "count_mixtures" sAns f fd) (C : Has P w K mg base 2 "are_counted" ["components", "parts"] spCounted)
    (M : Has P w K mg base 1 "mixture_count" ["components", "parts"] spMixCount) (gO : ∃ t, mg "OUTSIDE" = some (.int (-22) t)) : FnOk P w K mg base CX0 3 f fd ["components", "parts"] (spAns K) := by
  obtain ⟨t1, gO⟩ := gO
  refine F.ok scAns (fun vs H Q E h => ?_) (fun cdv A outer s H vs Q E hr h => ?_)
  · obtain ⟨x, lo, rfl, _⟩ := h
    rfl
  · obtain ⟨c, p, rfl, q⟩ := h
    refine ⟨_, pss_cons (ps_if (pt_not (pt_val (pe_has C hr (by decide) (by rfl) (pa_cons (pv 0) (pa_cons (pv 1) pa_nil)))))
        (pss_one (ps_ret (pe_lst (pa_cons (pe_glob (v := .int (-22)) (by rfl) gO ⟨_, rfl⟩) pa_nil)))) pss_nil)
      (pss_one (ps_ret (pe_lst (pa_cons (pe_has M hr (by decide) (by rfl) (pa_cons (pv 0) (pa_cons (pv 1) pa_nil))) pa_nil)))), ?_⟩
    refine ⟨_, rfl, _, rfl, _, _, rfl, _, rfl, ite2 (fun e => ?_) (fun e => ?_)⟩
    · refine ⟨(by show 1 ≤ sizeLine; decide), fun l hl => q _ l ?_⟩
      unfold aCount
      rw [if_neg (by simpa using e)]
      exact upd_same
    · have e' : counted c p = true := by simpa using e
      have e2 := e'
      unfold counted at e2
      rw [Bool.and_eq_true, within_iff, within_iff] at e2
      refine ⟨_, rfl, _, rfl, c, p, rfl, e2.1, e2.2, (by show 1 ≤ sizeLine; decide), fun l hl => q _ l ?_⟩
      unfold aCount
      rw [if_pos e']
      exact upd_same
end
end Pb
namespace Pb
open PySem PySem.Spec PyProof.Rows L2
/-- what the top has written: every def keeps its promise -/
theorem all_mk {P : Program} {w : World} {K : PySem.W.Frag} {h : Heap} {mg : Str → Option Value} {fa f1 f2 f3 f4 : Addr} (X : K.In h) (G : h.Ns mainGlobals mg) (hfa : mg "count_mixtures" = some (.ref fa))
    {od1 an1 od2 an2 od3 an3 od4 an4 : Option Addr} {sl1 sl2 sl3 sl4 : Array (Option Value)} {oc1 kV1 dc1 pm1 cd1 ct1 oc2 kV2 dc2 pm2 cd2 ct2 oc3 kV3 dc3 pm3 cd3 ct3 oc4 kV4 dc4 pm4 cd4 ct4 : Value} {tkMOST_COMPONENTS tkMOST_COUNTED tkOUTSIDE : Tok}
    (a1 : PySem.W.nsIn K mainGlobals "is_within" = some (some (.ref f1)))
    (l1 : K.lookup f1 = some ⟨oc1, od1, .func (PySem.W.fnOf "is_within" "is_within" (defArgs sWithin) (defBody sWithin) (defScope sWithin) .none kV1 dc1 pm1 an1 cd1 ct1), sl1⟩)
    (c1 : PySem.W.codeIn K cd1 "is_within" = true)
    (k1 : PySem.W.keepIn K (.ref f1) = true)
    (a2 : PySem.W.nsIn K mainGlobals "are_counted" = some (some (.ref f2)))
    (l2 : K.lookup f2 = some ⟨oc2, od2, .func (PySem.W.fnOf "are_counted" "are_counted" (defArgs sCounted) (defBody sCounted) (defScope sCounted) .none kV2 dc2 pm2 an2 cd2 ct2), sl2⟩)
    (c2 : PySem.W.codeIn K cd2 "are_counted" = true)
    (k2 : PySem.W.keepIn K (.ref f2) = true)
    (a3 : PySem.W.nsIn K mainGlobals "mixture_count" = some (some (.ref f3)))
    (l3 : K.lookup f3 = some ⟨oc3, od3, .func (PySem.W.fnOf "mixture_count" "mixture_count" (defArgs sMixCount) (defBody sMixCount) (defScope sMixCount) .none kV3 dc3 pm3 an3 cd3 ct3), sl3⟩)
    (c3 : PySem.W.codeIn K cd3 "mixture_count" = true)
    (k3 : PySem.W.keepIn K (.ref f3) = true)
    (a4 : PySem.W.nsIn K mainGlobals "count_mixtures" = some (some (.ref f4)))
    (l4 : K.lookup f4 = some ⟨oc4, od4, .func (PySem.W.fnOf "count_mixtures" "count_mixtures" (defArgs sAns) (defBody sAns) (defScope sAns) .none kV4 dc4 pm4 an4 cd4 ct4), sl4⟩)
    (c4 : PySem.W.codeIn K cd4 "count_mixtures" = true)
    (k4 : PySem.W.keepIn K (.ref f4) = true)
    (gMOST_COMPONENTS : PySem.W.nsIn K mainGlobals "MOST_COMPONENTS" = some (some (.int (4) tkMOST_COMPONENTS)))
    (gMOST_COUNTED : PySem.W.nsIn K mainGlobals "MOST_COUNTED" = some (some (.int (20) tkMOST_COUNTED)))
    (gOUTSIDE : PySem.W.nsIn K mainGlobals "OUTSIDE" = some (some (.int (-22) tkOUTSIDE)))
    (zrange : PySem.W.nsIn K mainGlobals "range" = some none)
    : ∃ fd : FuncData, (∀ (s : Shared) (us : List Value), us.length = (["components", "parts"] : List Str).length → BindsTo s fd ⟨us, []⟩ ((["components", "parts"] : List Str).zip us)) ∧ ∀ base : Heap, K.In base → base.Ns mainGlobals mg → FnOk P w K mg base CX0 3 fa fd ["components", "parts"] (spAns K) := by
  have e := hfa.symm.trans (PySem.W.mg_of X G a4)
  cases e
  have F1 := fun_mk (st := sWithin) l1 c1 k1
  have b1 := F1.binds (ps := ["number", "least", "most"]) fun _ _ _ _ _ _ us hl => match us, hl with | [_, _, _], _ => rfl
  have F2 := fun_mk (st := sCounted) l2 c2 k2
  have b2 := F2.binds (ps := ["components", "parts"]) fun _ _ _ _ _ _ us hl => match us, hl with | [_, _], _ => rfl
  have F3 := fun_mk (st := sMixCount) l3 c3 k3
  have b3 := F3.binds (ps := ["components", "parts"]) fun _ _ _ _ _ _ us hl => match us, hl with | [_, _], _ => rfl
  have F4 := fun_mk (st := sAns) l4 c4 k4
  have GMOST_COMPONENTS : ∃ t, mg "MOST_COMPONENTS" = some (.int (4) t) := ⟨_, PySem.W.mg_of X G gMOST_COMPONENTS⟩
  have GMOST_COUNTED : ∃ t, mg "MOST_COUNTED" = some (.int (20) t) := ⟨_, PySem.W.mg_of X G gMOST_COUNTED⟩
  have GOUTSIDE : ∃ t, mg "OUTSIDE" = some (.int (-22) t) := ⟨_, PySem.W.mg_of X G gOUTSIDE⟩
  have Zrange := PySem.W.mg_none_of X G zrange
  refine ⟨PySem.W.fnOf "count_mixtures" "count_mixtures" (defArgs sAns) (defBody sAns) (defScope sAns) .none kV4 dc4 pm4 an4 cd4 ct4, fun s us hu => match us, hu with | [_, _], _ => .of_eq rfl, fun base _ _ => ?_⟩
  have H1 : Has P w K mg base 1 "is_within" ["number", "least", "most"] spWithin := ⟨_, _, PySem.W.mg_of X G a1, k1, b1, ok_within F1⟩
  have H2 : Has P w K mg base 2 "are_counted" ["components", "parts"] spCounted := ⟨_, _, PySem.W.mg_of X G a2, k2, b2, ok_counted F2 H1 GMOST_COMPONENTS GMOST_COUNTED⟩
  have H3 : Has P w K mg base 1 "mixture_count" ["components", "parts"] spMixCount := ⟨_, _, PySem.W.mg_of X G a3, k3, b3, ok_mixcount F3 Zrange⟩
  exact ok_ans F4 H2 H3 GOUTSIDE
end Pb
open PySem PySem.W PyProof.Rows
set_option maxRecDepth 100000 in
set_option maxHeartbeats 8000000 in
theorem PySem.Challenge.cw_pairblend_s06_count_mixtures_holds : PySem.Challenge.rw_pairblend_s06_count_mixtures.Holds := by
  w_on; k_headS; (case hw => exact ⟨[.int 0, .int 0], by decide +kernel, by decide +kernel⟩)
  k_fillS
  refine L2.walk_specK (r := PySem.Challenge.rw_pairblend_s06_count_mixtures) (k := 3) (CX := L2.CX0) (ps := ["components", "parts"]) (sp := Pb.spAns) (by decide +kernel) rfl rfl ⟨rfl, by decide, by decide⟩ (fun w h Y => PySem.W.kIn_of Y) ?F ?S (fun _ _ _ _ z => z)
  case F =>
    intro w mg fa h Y KX G hmg
    refine' Pb.all_mk KX G hmg ?a1 ?l1 ?c1 ?k1 ?a2 ?l2 ?c2 ?k2 ?a3 ?l3 ?c3 ?k3 ?a4 ?l4 ?c4 ?k4 ?gMOST_COMPONENTS ?gMOST_COUNTED ?gOUTSIDE ?zrange
    (case a1 => k_is)
    (case l1 => k_is)
    (case c1 => k_is)
    (case k1 => k_is)
    (case a2 => k_is)
    (case l2 => k_is)
    (case c2 => k_is)
    (case k2 => k_is)
    (case a3 => k_is)
    (case l3 => k_is)
    (case c3 => k_is)
    (case k3 => k_is)
    (case a4 => k_is)
    (case l4 => k_is)
    (case c4 => k_is)
    (case k4 => k_is)
    (case gMOST_COMPONENTS => k_is)
    (case gMOST_COUNTED => k_is)
    (case gOUTSIDE => k_is)
    (case zrange => k_is)
  case S =>
    intro K H xs a hO hwi hask hx
    obtain ⟨c, p, u⟩ := a
    cases hx with
    | cons h1 hx =>
      cases hx with
      | cons h2 hx =>
        cases hx
        cases h1
        cases h2
        have q : (Codec.inInt 0 4294967295 c && (Codec.inInt 0 4294967295 p && true)) = true := hwi
        rw [Bool.and_eq_true, Bool.and_eq_true] at q
        have q2 := Codec.inInt_iff.mp q.2.1
        refine ⟨c, p, rfl, fun H' l e => ?_⟩
        have z : PyKs608.count_mixtures c p = Pb.aCount c p := Pb.aCount_is q2.1
        show L2.Dw K H' (.ref l) (.list ((PyKs608.count_mixtures c p).map WData.int))
        rw [z]
        exact .lst (L2.SqL.of e) (L2.dw_ints _)
#print axioms PySem.Challenge.cw_pairblend_s06_count_mixtures_holds
