import PyProof.Rows.All
import Wide.All
import OpenK.AllK
import Wide.FinOn
import Open.SpecLaws
import KE.OsGo
import HandS.ForSpec
import HandS.Comp
import HandS.Iter
import HandS.Walk
import HandS.Wide
import HandS.SortInts
import PySem.Challenge.RW_pairblend_s04_predict_combination
set_option Elab.async false
set_option linter.all false
set_option maxRecDepth 100000
set_option maxHeartbeats 4000000
/-! Plain laws of pairblend: rationals in lowest terms, the predicted response, no program in sight. -/
namespace Pb
open Ks604 (Rational)
open Ks604.Rational (make)
/-! ### rationals -/
theorem gpos {a : Nat} {b : Nat} (hb : 0 < b) : 0 < Nat.gcd a b := Nat.gcd_pos_of_pos_right a hb
theorem make_pos {a : Int} {b : Nat} (hb : 0 < b) : make a b = ⟨a / (Nat.gcd a.natAbs b : Nat), b / Nat.gcd a.natAbs b⟩ := by
  unfold make
  rw [if_neg (by omega)]
theorem make_num {a : Int} {b : Nat} (hb : 0 < b) : (make a b).num = a / (Nat.gcd a.natAbs b : Nat) := by rw [make_pos hb]
theorem make_den {a : Int} {b : Nat} (hb : 0 < b) : (make a b).den = b / Nat.gcd a.natAbs b := by rw [make_pos hb]
theorem make_scale (a : Int) {b k : Nat} (hb : 0 < b) (hk : 0 < k) : make (a * k) (b * k) = make a b := by
  have hg : 0 < Nat.gcd a.natAbs b := gpos hb
  have e : Nat.gcd (a * (k : Int)).natAbs (b * k) = Nat.gcd a.natAbs b * k := by
    rw [Int.natAbs_mul, Int.natAbs_natCast, Nat.gcd_mul_right]
  rw [make_pos (Nat.mul_pos hb hk), make_pos hb, e, Nat.mul_div_mul_right _ _ hk, Int.natCast_mul, Int.mul_ediv_mul_of_pos_left _ _ (by omega)]
theorem make_cross {a c : Int} {b d : Nat} (hb : 0 < b) (hd : 0 < d) (h : a * d = c * b) : make a b = make c d := by
  rw [← make_scale a hb hd, ← make_scale c hd hb, h, Nat.mul_comm b d]
theorem den_pos {a : Int} {b : Nat} (hb : 0 < b) : 0 < (make a b).den := by
  rw [make_den hb]
  exact Nat.div_pos (Nat.le_of_dvd hb (Nat.gcd_dvd_right _ _)) (gpos hb)
theorem make_back {a : Int} {b : Nat} (hb : 0 < b) : (make a b).num * b = a * (make a b).den := by
  rw [make_num hb, make_den hb]
  generalize hg : Nat.gcd a.natAbs b = g
  have h1 : g ∣ b := hg ▸ Nat.gcd_dvd_right _ _
  have h2 : (g : Int) ∣ a := Int.natAbs_dvd_natAbs.mp (by rw [Int.natAbs_natCast]; exact hg ▸ Nat.gcd_dvd_left _ _)
  have hgp : 0 < g := hg ▸ gpos hb
  obtain ⟨k, rfl⟩ := h1
  obtain ⟨l, rfl⟩ := h2
  rw [Int.mul_ediv_cancel_left _ (by omega), Nat.mul_div_cancel_left _ hgp]
  grind
theorem dvd_int {g : Nat} {a : Int} (h : g ∣ a.natAbs) : (g : Int) ∣ a := Int.natAbs_dvd_natAbs.mp (by rw [Int.natAbs_natCast]; exact h)
theorem make_again {a : Int} {b : Nat} (hb : 0 < b) : make (make a b).num (make a b).den = make a b :=
  make_cross (den_pos hb) hb (make_back hb)
theorem add_make {a c : Int} {b d : Nat} (hb : 0 < b) (hd : 0 < d) : make a b + make c d = make (a * d + c * b) (b * d) := by
  show make ((make a b).num * (make c d).den + (make c d).num * (make a b).den) ((make a b).den * (make c d).den) = _
  have e1 := make_back (a := a) hb
  have e2 := make_back (a := c) hd
  refine make_cross (Nat.mul_pos (den_pos hb) (den_pos hd)) (Nat.mul_pos hb hd) ?_
  rw [Int.natCast_mul, Int.natCast_mul]
  grind
theorem mul_make {a c : Int} {b d : Nat} (hb : 0 < b) (hd : 0 < d) : make a b * make c d = make (a * c) (b * d) := by
  show make ((make a b).num * (make c d).num) ((make a b).den * (make c d).den) = _
  have e1 := make_back (a := a) hb
  have e2 := make_back (a := c) hd
  refine make_cross (Nat.mul_pos (den_pos hb) (den_pos hd)) (Nat.mul_pos hb hd) ?_
  rw [Int.natCast_mul, Int.natCast_mul]
  grind
theorem neg_make {a : Int} {b : Nat} (hb : 0 < b) : Rational.neg (make a b) = make (-a) b := by
  rw [make_pos hb, make_pos hb, Int.natAbs_neg]
  show (⟨-(a / (Nat.gcd a.natAbs b : Nat)), b / Nat.gcd a.natAbs b⟩ : Rational) = _
  rw [Int.neg_ediv_of_dvd (dvd_int (Nat.gcd_dvd_left _ _))]
theorem sub_make {a c : Int} {b d : Nat} (hb : 0 < b) (hd : 0 < d) : make a b - make c d = make (a * d - c * b) (b * d) := by
  show make a b + Rational.neg (make c d) = _
  rw [neg_make hd, add_make hb hd]
  congr 1
  grind
theorem make_one (v : Int) : make v 1 = ⟨v, 1⟩ := by
  rw [make_pos (by omega), Nat.gcd_one_right]
  show (⟨v / 1, 1⟩ : Rational) = _
  rw [Int.ediv_one]
theorem ofInt_make (v : Int) : Rational.ofInt v = make v 1 := (make_one v).symm
theorem ofNat_make (v : Nat) : Rational.ofNat v = make (v : Int) 1 := (make_one v).symm
theorem zero_make {d : Nat} (hd : 0 < d) : Rational.zero = make 0 d := by
  rw [show make 0 d = make 0 1 from make_cross hd (by omega) (by omega), make_one]
  rfl
theorem add_same {a c : Int} {d : Nat} (hd : 0 < d) : make a d + make c d = make (a + c) d := by
  rw [add_make hd hd]
  refine make_cross (Nat.mul_pos hd hd) hd ?_
  rw [Int.natCast_mul]
  grind
theorem foldl_make {α : Type} {d : Nat} (hd : 0 < d) (f : α → Int) : ∀ (l : List α) (s : Int), (l.map fun a => make (f a) d).foldl Rational.add (make s d) = make (s + (l.map f).sum) d
  | [], s => by simp
  | x :: r, s => by
    show (r.map fun a => make (f a) d).foldl Rational.add (make s d + make (f x) d) = _
    rw [add_same hd, foldl_make hd f r]
    congr 1
    simp only [List.map_cons, List.sum_cons]
    omega
theorem sum_make {α : Type} {d : Nat} (hd : 0 < d) (f : α → Int) (l : List α) : Rational.sum (l.map fun a => make (f a) d) = make (l.map f).sum d := by
  show (l.map fun a => make (f a) d).foldl Rational.add Rational.zero = _
  rw [zero_make hd, foldl_make hd, Int.zero_add]
/-! ### the program's own numbers, over plain lists -/
/-- the pairs of so many components -/
def prs (n : Nat) : List (Nat × Nat) := (List.range n).flatMap fun i => (List.range (n - (i + 1))).map fun j => (i, i + 1 + j)
def inter (ps : List Int) (p : Nat × Nat) (b : Int) : Int := 4 * b - 2 * (ps.getD p.1 0 + ps.getD p.2 0)
def inters (ps bs : List Int) : List Int := List.zipWith (inter ps) (prs ps.length) bs
def alone (ps xs : List Int) : Int := (List.zipWith (fun a b => a * b) ps xs).sum
def term (xs : List Int) (p : Nat × Nat) (z : Int) : Int := z * xs.getD p.1 0 * xs.getD p.2 0
def together (ps bs xs : List Int) : Int := (List.zipWith (term xs) (prs ps.length) (inters ps bs)).sum
def scaled (ps bs xs : List Int) : Int := xs.sum * alone ps xs + together ps bs xs
def predicted (ps bs xs : List Int) : Rational := make (scaled ps bs xs) (xs.sum * xs.sum).toNat
def combined (xs ys : List Int) (k m : Int) : List Int := List.zipWith (fun a b => k * ys.sum * a + m * xs.sum * b) xs ys
def within (lo hi x : Int) : Bool := decide (lo ≤ x) && decide (x ≤ hi)
def given (ps bs : List Int) : Bool := decide (1 ≤ ps.length) && decide (ps.length ≤ 4) && decide (2 * bs.length = ps.length * (ps.length - 1)) && ps.all (within (-999) 999) && bs.all (within (-999) 999)
def mixture (n : Nat) (xs : List Int) : Bool := decide (xs.length = n) && decide (xs.sum ≠ 0) && xs.all (within 0 99)
end Pb
/-! The specification's answers are the program's own numbers. -/
namespace Pb
open Ks604 (Rational)
open Ks604.Rational (make)
/-! ### lists of one to four items -/
theorem len_cases {α : Type} {l : List α} (h1 : 1 ≤ l.length) (h4 : l.length ≤ 4) : (∃ a, l = [a]) ∨ (∃ a b, l = [a, b]) ∨ (∃ a b c, l = [a, b, c]) ∨ (∃ a b c d, l = [a, b, c, d]) := by
  match l, h1, h4 with
  | [a], _, _ => exact .inl ⟨a, rfl⟩
  | [a, b], _, _ => exact .inr (.inl ⟨a, b, rfl⟩)
  | [a, b, c], _, _ => exact .inr (.inr (.inl ⟨a, b, c, rfl⟩))
  | [a, b, c, d], _, _ => exact .inr (.inr (.inr ⟨a, b, c, d, rfl⟩))
/-! ### the predicted response -/
theorem getD_make {S : Nat} (hS : 0 < S) (xs : List Int) (i : Nat) : (xs.map fun c => make c S).getD i Rational.zero = make (xs.getD i 0) S := by
  rw [List.getD_eq_getElem?_getD, List.getD_eq_getElem?_getD, List.getElem?_map]
  cases xs[i]? with
  | none => exact zero_make hS
  | some c => rfl
theorem mul_one_make {a c : Int} {d : Nat} (hd : 0 < d) : make a d * make c 1 = make (a * c) d := by
  rw [mul_make hd (by omega), Nat.mul_one]
def binI (r : Ks608.Responses) (i j : Nat) : Int := r.binary.getD (Ks608.pairIndex r.pure.length (min i j) (max i j)) 0
theorem inter_make (r : Ks608.Responses) (i j : Nat) : Ks608.interaction r i j = make (4 * binI r i j - 2 * (r.pure.getD i 0 + r.pure.getD j 0)) 1 := by
  show Rational.ofInt 4 * Rational.ofInt (binI r i j) - Rational.ofInt 2 * (Rational.ofInt (r.pure.getD i 0) + Rational.ofInt (r.pure.getD j 0)) = _
  rw [ofInt_make, ofInt_make, ofInt_make, ofInt_make, ofInt_make, mul_make (by omega) (by omega), add_make (by omega) (by omega), mul_make (by omega) (by omega), sub_make (by omega) (by omega)]
  congr 1
  grind
def sum1 (r : Ks608.Responses) (xs : List Int) : Int := ((List.range r.pure.length).map fun i => xs.getD i 0 * r.pure.getD i 0).sum
def sum2 (r : Ks608.Responses) (xs : List Int) : Int := ((Ks608.allPairs r.pure.length).map fun p => (4 * binI r p.1 p.2 - 2 * (r.pure.getD p.1 0 + r.pure.getD p.2 0)) * (xs.getD p.1 0 * xs.getD p.2 0)).sum
theorem predict_make (r : Ks608.Responses) (xs : List Int) {S : Nat} (hS : 0 < S) : Ks608.predict r (xs.map fun c => make c S) = make ((S : Int) * sum1 r xs + sum2 r xs) (S * S) := by
  have hSS : 0 < S * S := Nat.mul_pos hS hS
  have e1 : ((List.range (Ks608.componentCount r)).map fun i => (xs.map fun c => make c S).getD i Rational.zero * Ks608.pureResponse r i) = (List.range r.pure.length).map fun i => make (xs.getD i 0 * r.pure.getD i 0) S := by
    refine List.map_congr_left fun i _ => ?_
    rw [getD_make hS]
    show _ * Rational.ofInt (r.pure.getD i 0) = _
    rw [ofInt_make, mul_one_make hS]
  have e2 : ((Ks608.allPairs (Ks608.componentCount r)).map fun p => Ks608.interaction r p.1 p.2 * ((xs.map fun c => make c S).getD p.1 Rational.zero * (xs.map fun c => make c S).getD p.2 Rational.zero)) =
      (Ks608.allPairs r.pure.length).map fun p => make ((4 * binI r p.1 p.2 - 2 * (r.pure.getD p.1 0 + r.pure.getD p.2 0)) * (xs.getD p.1 0 * xs.getD p.2 0)) (S * S) := by
    refine List.map_congr_left fun p _ => ?_
    rw [getD_make hS, getD_make hS, inter_make, mul_make hS hS, mul_make (by omega) hSS, Nat.one_mul]
  show Rational.sum _ + Rational.sum _ = _
  rw [e1, e2, sum_make hS, sum_make hSS]
  show make (sum1 r xs) S + make (sum2 r xs) (S * S) = _
  rw [add_make hS hSS]
  refine make_cross (Nat.mul_pos hS hSS) hSS ?_
  simp only [Int.natCast_mul]
  grind
theorem sums_scaled {ps bs xs : List Int} (h1 : 1 ≤ ps.length) (h4 : ps.length ≤ 4) (hb : 2 * bs.length = ps.length * (ps.length - 1)) (hx : xs.length = ps.length) :
    xs.sum * sum1 ⟨ps, bs⟩ xs + sum2 ⟨ps, bs⟩ xs = scaled ps bs xs := by
  rcases len_cases h1 h4 with ⟨a, rfl⟩ | ⟨a, b, rfl⟩ | ⟨a, b, c, rfl⟩ | ⟨a, b, c, d, rfl⟩
  · match xs, hx, bs, hb with
    | [x], _, [], _ =>
      show (x + 0) * (x * a + 0) + 0 = (x + 0) * (a * x + 0) + 0
      grind
  · match xs, hx, bs, hb with
    | [x, y], _, [s], _ =>
      show (x + (y + 0)) * (x * a + (y * b + 0)) + ((4 * s - 2 * (a + b)) * (x * y) + 0) = (x + (y + 0)) * (a * x + (b * y + 0)) + ((4 * s - 2 * (a + b)) * x * y + 0)
      grind
  · match xs, hx, bs, hb with
    | [x, y, z], _, [s, t, u], _ =>
      show (x + (y + (z + 0))) * (x * a + (y * b + (z * c + 0))) + ((4 * s - 2 * (a + b)) * (x * y) + ((4 * t - 2 * (a + c)) * (x * z) + ((4 * u - 2 * (b + c)) * (y * z) + 0))) =
        (x + (y + (z + 0))) * (a * x + (b * y + (c * z + 0))) + ((4 * s - 2 * (a + b)) * x * y + ((4 * t - 2 * (a + c)) * x * z + ((4 * u - 2 * (b + c)) * y * z + 0)))
      grind
  · match xs, hx, bs, hb with
    | [x, y, z, w], _, [s, t, u, v, p, q], _ =>
      show (x + (y + (z + (w + 0)))) * (x * a + (y * b + (z * c + (w * d + 0)))) + ((4 * s - 2 * (a + b)) * (x * y) + ((4 * t - 2 * (a + c)) * (x * z) + ((4 * u - 2 * (a + d)) * (x * w) + ((4 * v - 2 * (b + c)) * (y * z) + ((4 * p - 2 * (b + d)) * (y * w) + ((4 * q - 2 * (c + d)) * (z * w) + 0)))))) =
        (x + (y + (z + (w + 0)))) * (a * x + (b * y + (c * z + (d * w + 0)))) + ((4 * s - 2 * (a + b)) * x * y + ((4 * t - 2 * (a + c)) * x * z + ((4 * u - 2 * (a + d)) * x * w + ((4 * v - 2 * (b + c)) * y * z + ((4 * p - 2 * (b + d)) * y * w + ((4 * q - 2 * (c + d)) * z * w + 0))))))
      grind
theorem predict_is {ps bs xs : List Int} (h1 : 1 ≤ ps.length) (h4 : ps.length ≤ 4) (hb : 2 * bs.length = ps.length * (ps.length - 1)) (hx : xs.length = ps.length) (hS : 0 < xs.sum) :
    Ks608.predict ⟨ps, bs⟩ (xs.map fun c => make c xs.sum.toNat) = predicted ps bs xs := by
  have e : (xs.sum.toNat : Int) = xs.sum := by omega
  rw [predict_make _ _ (show 0 < xs.sum.toNat by omega), e, sums_scaled h1 h4 hb hx]
  unfold predicted
  rw [Int.toNat_mul (by omega) (by omega)]
end Pb
/-! What is due, call by call, in the program's own numbers. -/
namespace Pb
open Ks604 (Rational)
open Ks604.Rational (make)
theorem within_iff {lo hi x : Int} : within lo hi x = true ↔ lo ≤ x ∧ x ≤ hi := by
  unfold within
  rw [Bool.and_eq_true, decide_eq_true_iff, decide_eq_true_iff]
theorem given_iff {ps bs : List Int} : given ps bs = true ↔ 1 ≤ ps.length ∧ ps.length ≤ 4 ∧ 2 * bs.length = ps.length * (ps.length - 1) ∧ (∀ x ∈ ps, -999 ≤ x ∧ x ≤ 999) ∧ ∀ x ∈ bs, -999 ≤ x ∧ x ≤ 999 := by
  unfold given
  simp only [Bool.and_eq_true, decide_eq_true_eq, List.all_eq_true, within_iff]
  constructor
  · rintro ⟨⟨⟨⟨a, b⟩, c⟩, d⟩, e⟩
    exact ⟨a, b, c, d, e⟩
  · rintro ⟨a, b, c, d, e⟩
    exact ⟨⟨⟨⟨a, b⟩, c⟩, d⟩, e⟩
theorem mixture_iff {n : Nat} {xs : List Int} : mixture n xs = true ↔ xs.length = n ∧ xs.sum ≠ 0 ∧ ∀ x ∈ xs, 0 ≤ x ∧ x ≤ 99 := by
  unfold mixture
  simp only [Bool.and_eq_true, decide_eq_true_eq, List.all_eq_true, within_iff]
  constructor
  · rintro ⟨⟨a, b⟩, c⟩
    exact ⟨a, b, c⟩
  · rintro ⟨a, b, c⟩
    exact ⟨⟨a, b⟩, c⟩
theorem parse_is (ps bs : List Int) : Ks608.parseResponses ps bs = if given ps bs = true then some ⟨ps, bs⟩ else none := by
  unfold Ks608.parseResponses
  by_cases h : given ps bs = true
  · rw [if_pos h, if_neg]
    rw [given_iff] at h
    obtain ⟨a, b, c, d, e⟩ := h
    rintro (z | z | z | z)
    · omega
    · exact absurd z (Nat.not_lt.mpr b)
    · exact z c
    · rw [List.any_eq_true] at z
      obtain ⟨x, hx, hz⟩ := z
      have hz := of_decide_eq_true hz
      rcases List.mem_append.mp hx with q | q
      · have := d x q
        omega
      · have := e x q
        omega
  · rw [if_neg h, if_pos]
    refine Classical.byContradiction fun z => h ?_
    simp only [not_or, List.any_eq_true, not_exists, not_and, decide_eq_true_eq] at z
    obtain ⟨a, b, c, d⟩ := z
    refine given_iff.mpr ⟨by omega, Nat.not_lt.mp b, Classical.not_not.mp c, fun x hx => ?_, fun x hx => ?_⟩
    · have := d x (List.mem_append_left _ hx)
      omega
    · have := d x (List.mem_append_right _ hx)
      omega
theorem sum_nonneg : ∀ {xs : List Int}, (∀ x ∈ xs, 0 ≤ x) → 0 ≤ xs.sum
  | [], _ => Int.le_refl _
  | x :: r, h => by
    have h1 := h x List.mem_cons_self
    have h2 := sum_nonneg (xs := r) fun y hy => h y (List.mem_cons_of_mem _ hy)
    rw [List.sum_cons]
    omega
theorem sum_toNat : ∀ {xs : List Int}, (∀ x ∈ xs, 0 ≤ x) → (xs.map Int.toNat).sum = xs.sum.toNat
  | [], _ => rfl
  | x :: r, h => by
    have h1 := h x List.mem_cons_self
    have h2 := sum_nonneg (xs := r) fun y hy => h y (List.mem_cons_of_mem _ hy)
    rw [List.map_cons, List.sum_cons, List.sum_cons, sum_toNat fun y hy => h y (List.mem_cons_of_mem _ hy)]
    omega
theorem mixture_is {ps bs ms : List Int} (h : ∀ x ∈ ms, 0 ≤ x) : Ks608.isValidMixture ⟨ps, bs⟩ (ms.map Int.toNat) = mixture ps.length ms := by
  have h0 := sum_nonneg h
  rw [Bool.eq_iff_iff, mixture_iff]
  unfold Ks608.isValidMixture
  rw [sum_toNat h]
  simp only [Bool.and_eq_true, beq_iff_eq, decide_eq_true_eq, List.all_eq_true, List.length_map, List.mem_map, forall_exists_index, and_imp, forall_apply_eq_imp_iff₂]
  show (ms.length = ps.length ∧ _) ∧ _ ↔ _
  constructor
  · rintro ⟨⟨a, b⟩, c⟩
    exact ⟨a, by omega, fun x hx => ⟨h x hx, by have := b x hx; omega⟩⟩
  · rintro ⟨a, b, c⟩
    exact ⟨⟨a, fun x hx => by have := c x hx; omega⟩, by omega⟩
theorem fractions_is {ms : List Int} (h : ∀ x ∈ ms, 0 ≤ x) : Ks608.fractions (ms.map Int.toNat) = ms.map fun c => make c ms.sum.toNat := by
  unfold Ks608.fractions
  rw [sum_toNat h, List.map_map]
  refine List.map_congr_left fun x hx => ?_
  have := h x hx
  show make ((x.toNat : Nat) : Int) _ = _
  rw [Int.toNat_of_nonneg this]
/-- what a rational number is told as -/
def told (q : Rational) : List Int := [q.num, (q.den : Int)]
theorem mix_pos {n : Nat} {xs : List Int} (h : mixture n xs = true) : 0 < xs.sum := by
  obtain ⟨a, b, c⟩ := mixture_iff.mp h
  have := sum_nonneg fun x hx => (c x hx).1
  omega
def aPredict (ps bs ms : List Int) : List Int := if (given ps bs && mixture ps.length ms) = true then 0 :: told (predicted ps bs ms) else [-22]
theorem aPredict_is {ps bs ms : List Int} (h : ∀ x ∈ ms, 0 ≤ x) : PyKs608.predict ps bs ms = aPredict ps bs ms := by
  show Ks608Neutral.integers (Ks608.withResponses ps bs fun r => if Ks608.isValidMixture r (ms.map Int.toNat) = false then Ks608.number (-22) else { value := 0, rest := Ks604.pairs [Ks608.predict r (Ks608.fractions (ms.map Int.toNat))] }) = _
  unfold Ks608.withResponses aPredict
  rw [parse_is]
  by_cases g : given ps bs = true
  · rw [if_pos g]
    simp only
    rw [mixture_is h, g, Bool.true_and]
    by_cases m : mixture ps.length ms = true
    · obtain ⟨h1, h4, hb, _, _⟩ := given_iff.mp g
      rw [if_pos m, m, if_neg (by simp), fractions_is h, predict_is h1 h4 hb (mixture_iff.mp m).1 (mix_pos m)]
      rfl
    · rw [if_neg m, if_pos (by simpa using m)]
      rfl
  · rw [if_neg g, if_neg (by simp [g])]
    rfl
/-! ### interactions -/
def aInteractions (ps bs : List Int) : List Int := if given ps bs = true then (bs.length : Int) :: (inters ps bs).flatMap fun z => [z, 1] else [-22]
theorem inters_is {ps bs : List Int} (h1 : 1 ≤ ps.length) (h4 : ps.length ≤ 4) (hb : 2 * bs.length = ps.length * (ps.length - 1)) :
    ((Ks608.allPairs ps.length).map fun p => 4 * binI ⟨ps, bs⟩ p.1 p.2 - 2 * (ps.getD p.1 0 + ps.getD p.2 0)) = inters ps bs := by
  rcases len_cases h1 h4 with ⟨a, rfl⟩ | ⟨a, b, rfl⟩ | ⟨a, b, c, rfl⟩ | ⟨a, b, c, d, rfl⟩
  · match bs, hb with
    | [], _ => rfl
  · match bs, hb with
    | [s], _ => rfl
  · match bs, hb with
    | [s, t, u], _ => rfl
  · match bs, hb with
    | [s, t, u, v, p, q], _ => rfl
theorem aInteractions_is (ps bs : List Int) : PyKs608.interactions ps bs = aInteractions ps bs := by
  show Ks608Neutral.integers (Ks608.withResponses ps bs fun r => { value := (Ks608.allPairs (Ks608.componentCount r)).length, rest := Ks604.pairs ((Ks608.allPairs (Ks608.componentCount r)).map fun p => Ks608.interaction r p.1 p.2) }) = _
  unfold Ks608.withResponses aInteractions
  rw [parse_is]
  by_cases g : given ps bs = true
  · rw [if_pos g, if_pos g]
    obtain ⟨h1, h4, hb, _, _⟩ := given_iff.mp g
    have hl : (Ks608.allPairs ps.length).length = bs.length := by
      have : ∀ n, 1 ≤ n → n ≤ 4 → 2 * (Ks608.allPairs n).length = n * (n - 1) := by
        intro n a b
        match n, a, b with
        | 1, _, _ => rfl
        | 2, _, _ => rfl
        | 3, _, _ => rfl
        | 4, _, _ => rfl
      have := this _ h1 h4
      omega
    show ((Ks608.allPairs ps.length).length : Int) :: Ks604.pairs _ = _
    rw [hl, ← inters_is h1 h4 hb]
    refine congrArg _ ?_
    unfold Ks604.pairs
    rw [List.flatMap_map, List.flatMap_map]
    refine congrArg (fun f => List.flatMap f (Ks608.allPairs ps.length)) (funext fun p => ?_)
    rw [inter_make, make_one]
    rfl
  · rw [if_neg g, if_neg g]
    rfl
/-! ### synergies -/
/-- the loop's list: the partners of a component -/
def partner (c : Int) (p : Nat × Nat) (z : Int) : List Int := (if decide (0 < z) && decide ((p.1 : Int) = c) then [(p.2 : Int)] else []) ++ (if decide (0 < z) && decide ((p.2 : Int) = c) then [(p.1 : Int)] else [])
def partners (ps bs : List Int) (c : Int) : List Int := (List.zipWith (partner c) (prs ps.length) (inters ps bs)).flatten
def aSynergies (c : Int) (ps bs : List Int) : List Int := if given ps bs = true then (if (ps.length : Int) ≤ c then [-2] else ((partners ps bs c).length : Int) :: partners ps bs c) else [-22]
theorem lt_zero_make (v : Int) : Rational.lt Rational.zero (make v 1) = decide (0 < v) := by
  rw [make_one]
  show decide ((0 : Int) * (1 : Nat) < v * (1 : Nat)) = _
  congr 1
  simp
theorem synergies_is (ps bs : List Int) (i : Nat) : Ks608.synergies ⟨ps, bs⟩ i = (List.range ps.length).filter fun j => j != i && decide (0 < 4 * binI ⟨ps, bs⟩ (min i j) (max i j) - 2 * (ps.getD (min i j) 0 + ps.getD (max i j) 0)) := by
  unfold Ks608.synergies
  refine congrArg (fun f => List.filter f (List.range ps.length)) (funext fun j => ?_)
  rw [inter_make, lt_zero_make]
theorem filt {p : Nat → Bool} {i : Nat} {r : List Nat} : (i :: r).filter p = (if p i = true then [i] else []) ++ r.filter p := by
  rw [List.filter_cons]
  split <;> rfl
theorem partners_is {ps bs : List Int} (h1 : 1 ≤ ps.length) (h4 : ps.length ≤ 4) (hb : 2 * bs.length = ps.length * (ps.length - 1)) {i : Nat} (hi : i < ps.length) :
    (Ks608.synergies ⟨ps, bs⟩ i).map Int.ofNat = partners ps bs i := by
  rw [synergies_is]
  rcases len_cases h1 h4 with ⟨a, rfl⟩ | ⟨a, b, rfl⟩ | ⟨a, b, c, rfl⟩ | ⟨a, b, c, d, rfl⟩
  · match bs, hb, i, hi with
    | [], _, 0, _ => rfl
  · obtain ⟨s, rfl⟩ : ∃ s, bs = [s] := match bs, hb with
      | [s], _ => ⟨s, rfl⟩
    have q : i = 0 ∨ i = 1 := by
      have hi : i < 2 := hi
      omega
    rcases q with rfl | rfl <;>
      (simp [partners, partner, prs, inters, inter, binI, Ks608.pairIndex, List.range, List.range.loop, filt]
       try ((repeat' split) <;> simp_all))
  · obtain ⟨s, t, u, rfl⟩ : ∃ s t u, bs = [s, t, u] := match bs, hb with
      | [s, t, u], _ => ⟨s, t, u, rfl⟩
    have q : i = 0 ∨ i = 1 ∨ i = 2 := by
      have hi : i < 3 := hi
      omega
    rcases q with rfl | rfl | rfl <;>
      (simp [partners, partner, prs, inters, inter, binI, Ks608.pairIndex, List.range, List.range.loop, filt]
       try ((repeat' split) <;> simp_all))
  · obtain ⟨s, t, u, v, p, q, rfl⟩ : ∃ s t u v p q, bs = [s, t, u, v, p, q] := match bs, hb with
      | [s, t, u, v, p, q], _ => ⟨s, t, u, v, p, q, rfl⟩
    have z : i = 0 ∨ i = 1 ∨ i = 2 ∨ i = 3 := by
      have hi : i < 4 := hi
      omega
    rcases z with rfl | rfl | rfl | rfl <;>
      (simp [partners, partner, prs, inters, inter, binI, Ks608.pairIndex, List.range, List.range.loop, filt]
       try ((repeat' split) <;> simp_all))
end Pb
/-! Plain facts that the walks ask: pairs, items, sums. -/
namespace Pb
open Ks604 (Rational)
open Ks604.Rational (make)
theorem prs_len {n : Nat} (h1 : 1 ≤ n) (h4 : n ≤ 4) : 2 * (prs n).length = n * (n - 1) := by
  match n, h1, h4 with
  | 1, _, _ => rfl
  | 2, _, _ => rfl
  | 3, _, _ => rfl
  | 4, _, _ => rfl
theorem prs_small {n : Nat} (h4 : n ≤ 4) : (prs n).length ≤ 6 := by
  match n, h4 with
  | 0, _ => decide
  | 1, _ => decide
  | 2, _ => decide
  | 3, _ => decide
  | 4, _ => decide
theorem prs_lt {n : Nat} {p : Nat × Nat} (h : p ∈ prs n) : p.1 < n ∧ p.2 < n := by
  unfold prs at h
  obtain ⟨i, hi, h⟩ := List.mem_flatMap.mp h
  obtain ⟨j, hj, rfl⟩ := List.mem_map.mp h
  have a := List.mem_range.mp hi
  have b := List.mem_range.mp hj
  exact ⟨a, by show i + 1 + j < n; omega⟩
/-- the pairs of the first i components -/
def prsTo (n i : Nat) : List (Nat × Nat) := (List.range i).flatMap fun i => (List.range (n - (i + 1))).map fun j => (i, i + 1 + j)
theorem prsTo_all (n : Nat) : prsTo n n = prs n := rfl
theorem prsTo_more (n i : Nat) : prsTo n (i + 1) = prsTo n i ++ (List.range (n - (i + 1))).map fun j => (i, i + 1 + j) := by
  unfold prsTo
  rw [List.range_succ, List.flatMap_append]
  simp
theorem prsTo_small {n i : Nat} (h4 : n ≤ 4) (hi : i ≤ n) : (prsTo n i).length ≤ 6 := by
  have q : ∀ n : Fin 5, ∀ i : Fin 5, i.val ≤ n.val → (prsTo n.val i.val).length ≤ 6 := by decide
  exact q ⟨n, by omega⟩ ⟨i, by omega⟩ hi
theorem given_len {ps bs : List Int} (g : given ps bs = true) : (prs ps.length).length = bs.length := by
  obtain ⟨h1, h4, hb, _, _⟩ := given_iff.mp g
  have := prs_len h1 h4
  omega
theorem inters_len {ps bs : List Int} (g : given ps bs = true) : (inters ps bs).length = (prs ps.length).length := by
  unfold inters
  rw [List.length_zipWith, given_len g, Nat.min_self]
theorem zip_at {α β γ : Type} {f : α → β → γ} {l : List α} {r : List β} {i : Nat} {x : α} {y : β} (h1 : l[i]? = some x) (h2 : r[i]? = some y) : (List.zipWith f l r)[i]? = some (f x y) := by
  rw [List.getElem?_zipWith, h1, h2]
theorem inters_at {ps bs : List Int} {i : Nat} {p : Nat × Nat} {b : Int} (h1 : (prs ps.length)[i]? = some p) (h2 : bs[i]? = some b) : (inters ps bs)[i]? = some (inter ps p b) := zip_at h1 h2
theorem take_next {α : Type} {l : List α} {i : Nat} {x : α} (h : l[i]? = some x) : l.take (i + 1) = l.take i ++ [x] := by
  rw [List.take_add_one, h]
  rfl
theorem sum_next {l : List Int} {i : Nat} {x : Int} (h : l[i]? = some x) : (l.take (i + 1)).sum = (l.take i).sum + x := by
  rw [take_next h, List.sum_append, List.sum_cons, List.sum_nil, Int.add_zero]
theorem mem_at {α : Type} {l : List α} {i : Nat} {x : α} (h : l[i]? = some x) : x ∈ l := List.mem_of_getElem? h
theorem some_at {α : Type} {l : List α} {i : Nat} (h : i < l.length) : ∃ x, l[i]? = some x := ⟨l[i], List.getElem?_eq_getElem h⟩
theorem getD_at {l : List Int} {i : Nat} {x : Int} (h : l[i]? = some x) : l.getD i 0 = x := by
  rw [List.getD_eq_getElem?_getD, h]
  rfl
theorem inter_small {ps bs : List Int} (g : given ps bs = true) {z : Int} (h : z ∈ inters ps bs) : -100000 < z ∧ z < 100000 := by
  obtain ⟨h1, h4, hb, hp, hq⟩ := given_iff.mp g
  obtain ⟨i, hi⟩ := List.getElem?_of_mem h
  have hl := given_len g
  have hil : i < (inters ps bs).length := (List.getElem?_eq_some_iff.mp hi).1
  rw [inters_len g] at hil
  obtain ⟨p, ep⟩ := some_at hil
  obtain ⟨b, eb⟩ := some_at (l := bs) (i := i) (by omega)
  rw [inters_at ep eb] at hi
  obtain ⟨x, ex⟩ := some_at (l := ps) (prs_lt (mem_at ep)).1
  obtain ⟨y, ey⟩ := some_at (l := ps) (prs_lt (mem_at ep)).2
  have q1 := hp x (mem_at ex)
  have q2 := hp y (mem_at ey)
  have q3 := hq b (mem_at eb)
  have e := Option.some.inj hi
  unfold inter at e
  rw [getD_at ex, getD_at ey] at e
  omega
/-! ### what is given, test by test -/
theorem given_no1 {ps bs : List Int} (h : ¬ within 1 4 (ps.length : Int) = true) : given ps bs = false := by
  rw [within_iff] at h
  refine Bool.eq_false_iff.mpr fun g => h ?_
  obtain ⟨h1, h4, _⟩ := given_iff.mp g
  omega
theorem half {n b : Nat} (h1 : 1 ≤ n) (h4 : n ≤ 4) : 2 * b = n * (n - 1) ↔ (b : Int) = (n : Int) * ((n : Int) - 1) / 2 := by
  match n, h1, h4 with
  | 1, _, _ => omega
  | 2, _, _ => omega
  | 3, _, _ => omega
  | 4, _, _ => omega
theorem given_no2 {ps bs : List Int} (h : within 1 4 (ps.length : Int) = true) (h2 : ¬ (bs.length : Int) = (ps.length : Int) * ((ps.length : Int) - 1) / 2) : given ps bs = false := by
  rw [within_iff] at h
  refine Bool.eq_false_iff.mpr fun g => h2 ?_
  obtain ⟨h1, h4, hb, _⟩ := given_iff.mp g
  exact (half h1 h4).mp hb
theorem given_yes {ps bs : List Int} (h : within 1 4 (ps.length : Int) = true) (h2 : (bs.length : Int) = (ps.length : Int) * ((ps.length : Int) - 1) / 2) :
    given ps bs = (ps.all (within (-999) 999) && bs.all (within (-999) 999)) := by
  rw [within_iff] at h
  have a : 1 ≤ ps.length := by omega
  have b : ps.length ≤ 4 := by omega
  unfold given
  rw [decide_eq_true a, decide_eq_true b, decide_eq_true ((half a b).mpr h2), Bool.true_and, Bool.true_and, Bool.true_and]
theorem mixture_no1 {n : Nat} {xs : List Int} (h : ¬ xs.length = n) : mixture n xs = false := by
  unfold mixture
  rw [decide_eq_false h, Bool.false_and, Bool.false_and]
theorem mixture_no2 {n : Nat} {xs : List Int} (h : xs.sum = 0) : mixture n xs = false := by
  unfold mixture
  rw [decide_eq_false (p := xs.sum ≠ 0) (fun z => z h), Bool.and_false, Bool.false_and]
theorem mixture_yes {n : Nat} {xs : List Int} (h : xs.length = n) (h2 : ¬ xs.sum = 0) : mixture n xs = xs.all (within 0 99) := by
  unfold mixture
  rw [decide_eq_true h, decide_eq_true h2, Bool.true_and, Bool.true_and]
theorem sum_le : ∀ {xs : List Int} {m : Int}, (∀ x ∈ xs, x ≤ m) → xs.sum ≤ (xs.length : Int) * m
  | [], m, _ => by simp
  | x :: r, m, h => by
    have h1 := h x List.mem_cons_self
    have h2 := sum_le (xs := r) fun y hy => h y (List.mem_cons_of_mem _ hy)
    rw [List.sum_cons, List.length_cons, Int.natCast_add, Int.add_mul]
    omega
/-- parts that the program reckons with: as many as components, not below 0, not all 0, not too large -/
structure Parts (n : Nat) (xs : List Int) : Prop where
  len : xs.length = n
  pos : 0 < xs.sum
  lo : ∀ x ∈ xs, 0 ≤ x
  hi : ∀ x ∈ xs, x ≤ 1000000000
theorem parts_of {n : Nat} {xs : List Int} (h : mixture n xs = true) : Parts n xs := by
  obtain ⟨a, b, c⟩ := mixture_iff.mp h
  exact ⟨a, mix_pos h, fun x hx => (c x hx).1, fun x hx => Int.le_trans (c x hx).2 (by decide)⟩
theorem Parts.sum_hi {n : Nat} {xs : List Int} (h : Parts n xs) (h4 : n ≤ 4) : xs.sum ≤ 4000000000 := by
  have q := sum_le h.hi
  have := h.len
  omega
end Pb
/-! What is due: synergies, count_mixtures, predict_combination. -/
namespace Pb
open Ks604 (Rational)
open Ks604.Rational (make)
theorem aSynergies_is {c : Int} (hc : 0 ≤ c) (ps bs : List Int) : PyKs608.synergies c ps bs = aSynergies c ps bs := by
  show Ks608Neutral.integers (Ks608.withResponses ps bs fun r => if Ks608.componentCount r ≤ c.toNat then Ks608.number (-2) else Ks604.listResult (Ks608.synergies r c.toNat)) = _
  unfold Ks608.withResponses aSynergies
  rw [parse_is]
  by_cases g : given ps bs = true
  · rw [if_pos g, if_pos g]
    obtain ⟨h1, h4, hb, _, _⟩ := given_iff.mp g
    show Ks608Neutral.integers (if ps.length ≤ c.toNat then Ks608.number (-2) else Ks604.listResult (Ks608.synergies ⟨ps, bs⟩ c.toNat)) = _
    by_cases hi : ps.length ≤ c.toNat
    · rw [if_pos hi, if_pos (by omega)]
      rfl
    · rw [if_neg hi, if_neg (by omega)]
      have e := partners_is h1 h4 hb (i := c.toNat) (by omega)
      rw [show ((c.toNat : Nat) : Int) = c by omega] at e
      rw [← e, List.length_map]
      rfl
  · rw [if_neg g, if_neg g]
    rfl
theorem partners_up {ps bs : List Int} {c : Int} (g : given ps bs = true) (hc : 0 ≤ c) (hl : ¬ (ps.length : Int) ≤ c) : (partners ps bs c).Pairwise fun a b => a ≤ b := by
  obtain ⟨h1, h4, hb, _, _⟩ := given_iff.mp g
  have e := partners_is h1 h4 hb (i := c.toNat) (by omega)
  rw [show ((c.toNat : Nat) : Int) = c by omega] at e
  rw [← e, List.pairwise_map]
  refine List.Pairwise.imp (R := fun a b => a < b) (fun {a b} h => ?_) (List.Pairwise.filter _ List.pairwise_lt_range)
  show (a : Int) ≤ (b : Int)
  omega
/-- two lists in order with the same items are one -/
theorem perm_up {l r : List Int} (p : l.Perm r) (hl : l.Pairwise fun a b => a ≤ b) (hr : r.Pairwise fun a b => a ≤ b) : l = r :=
  p.eq_of_pairwise (fun a b _ _ h h' => by omega) hl hr
/-! ### count_mixtures -/
def cnt (p : Int) : Nat → Int
  | 0 => 1
  | j + 1 => (cnt p j * (p + ((j : Int) + 1))) / ((j : Int) + 1)
def counted (c p : Int) : Bool := within 1 4 c && within 0 20 p
def aCount (c p : Int) : List Int := if counted c p = true then [cnt p (c - 1).toNat] else [-22]
def mlen : Nat → Nat → Nat
  | 0, p => if p = 0 then 1 else 0
  | n + 1, p => ((List.range (p + 1)).map fun f => mlen n (p - f)).sum
theorem mlen_is : ∀ n p, (Ks608.mixtures n p).length = mlen n p
  | 0, p => by
    unfold Ks608.mixtures mlen
    split <;> rfl
  | n + 1, p => by
    unfold Ks608.mixtures mlen
    rw [List.length_flatMap]
    refine congrArg List.sum (List.map_congr_left fun f _ => ?_)
    rw [List.length_map, mlen_is n]
theorem count_all : ∀ c : Fin 5, ∀ p : Fin 21, 1 ≤ c.val → (mlen c.val p.val : Int) = cnt (p.val : Int) (c.val - 1) := by decide +kernel
theorem aCount_is {c p : Int} (hp : 0 ≤ p) : PyKs608.count_mixtures c p = aCount c p := by
  show Ks608Neutral.integers (if c.toNat < 1 ∨ 4 < c.toNat ∨ 20 < p.toNat then Ks608.number (-22) else Ks608.number (Ks608.mixtures c.toNat p.toNat).length) = _
  unfold aCount
  by_cases h : counted c p = true
  · have h' := h
    unfold counted at h'
    rw [Bool.and_eq_true, within_iff, within_iff] at h'
    rw [if_pos h, if_neg (by omega)]
    have e := count_all ⟨c.toNat, by omega⟩ ⟨p.toNat, by omega⟩ (by show 1 ≤ c.toNat; omega)
    show [((Ks608.mixtures c.toNat p.toNat).length : Int)] = _
    rw [mlen_is, e, show ((p.toNat : Nat) : Int) = p by omega, show c.toNat - 1 = (c - 1).toNat by omega]
  · have h' := h
    unfold counted at h'
    rw [Bool.and_eq_true, within_iff, within_iff] at h'
    rw [if_neg h, if_pos (by omega)]
    rfl
/-! ### predict_combination -/
def share (k : Int) : Bool := within 1 99 k
def mean (a b : Rational) (k m : Int) : Rational := make (k * a.num * b.den + m * b.num * a.den) ((k + m) * a.den * b.den).toNat
def aCombination (k m : Int) (ps bs xs ys : List Int) : List Int :=
  if (given ps bs && share k && share m && (mixture ps.length xs && mixture ps.length ys)) = true then
    0 :: told (predicted ps bs (combined xs ys k m)) ++ told (mean (predicted ps bs xs) (predicted ps bs ys) k m)
  else [-22]
theorem combined_len {xs ys : List Int} {k m : Int} (h : xs.length = ys.length) : (combined xs ys k m).length = xs.length := by
  unfold combined
  rw [List.length_zipWith]
  omega
theorem zip_sum (a b : Int) : ∀ {xs ys : List Int}, xs.length = ys.length → (List.zipWith (fun x y => a * x + b * y) xs ys).sum = a * xs.sum + b * ys.sum
  | [], [], _ => by simp
  | x :: r, y :: s, h => by
    have ih := zip_sum a b (xs := r) (ys := s) (by simpa using h)
    simp only [List.zipWith_cons_cons, List.sum_cons, ih]
    grind
theorem combined_sum {xs ys : List Int} {k m : Int} (h : xs.length = ys.length) : (combined xs ys k m).sum = (k + m) * (xs.sum * ys.sum) := by
  unfold combined
  rw [zip_sum _ _ h]
  grind
theorem combine_is {xs ys : List Int} {k m : Int} (hk : 0 < k) (hm : 0 < m) (h : xs.length = ys.length) (h1 : 0 < xs.sum) (h2 : 0 < ys.sum) :
    Ks608.combine k.toNat m.toNat (xs.map fun c => make c xs.sum.toNat) (ys.map fun c => make c ys.sum.toNat) = (combined xs ys k m).map fun c => make c (combined xs ys k m).sum.toNat := by
  rw [combined_sum h]
  unfold Ks608.combine combined
  rw [List.map_zipWith]
  generalize hX : xs.sum = X at *
  generalize hY : ys.sum = Y at *
  have hXY := Int.mul_pos h1 h2
  have hkm : 0 < (k + m) * (X * Y) := Int.mul_pos (by omega) hXY
  clear hX hY
  induction xs generalizing ys with
  | nil => rfl
  | cons x r ih =>
    match ys, h with
    | y :: s, h =>
      simp only [List.map_cons, List.zip_cons_cons, List.zipWith_cons_cons]
      refine congr (congrArg List.cons ?_) (ih (by simpa using h))
      have eX : ((X.toNat : Nat) : Int) = X := by omega
      have eY : ((Y.toNat : Nat) : Int) = Y := by omega
      rw [ofNat_make, ofNat_make, mul_make (by omega) (by omega), mul_make (by omega) (by omega), add_make (by omega) (by omega), mul_make (Nat.mul_pos (by omega) (by omega)) (by omega)]
      refine make_cross (Nat.mul_pos (Nat.mul_pos (by omega) (by omega)) (by omega)) (by omega) ?_
      simp only [Int.natCast_mul, Int.natCast_add]
      rw [show (((k + m) * (X * Y)).toNat : Int) = (k + m) * (X * Y) by omega, show ((k.toNat : Nat) : Int) = k by omega, show ((m.toNat : Nat) : Int) = m by omega, eX, eY]
      grind
theorem told_pos (ps bs xs : List Int) (h : 0 < xs.sum) : 0 < (predicted ps bs xs).den ∧ make (predicted ps bs xs).num (predicted ps bs xs).den = predicted ps bs xs := by
  have q : 0 < (xs.sum * xs.sum).toNat := by
    have := Int.mul_pos h h
    omega
  exact ⟨den_pos q, make_again q⟩
theorem mean_is {a b : Rational} {k m : Int} (hk : 0 < k) (hm : 0 < m) (ha : 0 < a.den) (hb : 0 < b.den) (ea : make a.num a.den = a) (eb : make b.num b.den = b) :
    (Rational.ofNat k.toNat * a + Rational.ofNat m.toNat * b) * make 1 (k.toNat + m.toNat) = mean a b k m := by
  unfold mean
  have pa : (0 : Int) < a.den := by omega
  have pb : (0 : Int) < b.den := by omega
  have pq := Int.mul_pos (Int.mul_pos (show 0 < k + m by omega) pa) pb
  rw [← ea, ← eb, ofNat_make, ofNat_make, mul_make (by omega) ha, mul_make (by omega) hb, ea, eb, add_make (by omega) (by omega), mul_make (Nat.mul_pos (by omega) (by omega)) (by omega)]
  refine make_cross (Nat.mul_pos (Nat.mul_pos (by omega) (by omega)) (by omega)) (by omega) ?_
  simp only [Int.natCast_mul, Int.natCast_add]
  rw [show (((k + m) * (a.den : Int) * b.den).toNat : Int) = (k + m) * a.den * b.den by omega, show ((k.toNat : Nat) : Int) = k by omega, show ((m.toNat : Nat) : Int) = m by omega]
  grind
theorem aCombination_is {k m : Int} {ps bs xs ys : List Int} (hx : ∀ x ∈ xs, 0 ≤ x) (hy : ∀ x ∈ ys, 0 ≤ x) : PyKs608.predict_combination k m ps bs xs ys = aCombination k m ps bs xs ys := by
  show Ks608Neutral.integers (Ks608.withResponses ps bs fun r => if Ks608.isValidMixture r (xs.map Int.toNat) = false ∨ Ks608.isValidMixture r (ys.map Int.toNat) = false ∨ Ks608.isValidProportion k.toNat m.toNat = false then Ks608.number (-22)
    else { value := 0, rest := Ks604.pairs [Ks608.predict r (Ks608.combine k.toNat m.toNat (Ks608.fractions (xs.map Int.toNat)) (Ks608.fractions (ys.map Int.toNat))),
      (Rational.ofNat k.toNat * Ks608.predict r (Ks608.fractions (xs.map Int.toNat)) + Rational.ofNat m.toNat * Ks608.predict r (Ks608.fractions (ys.map Int.toNat))) * make 1 (k.toNat + m.toNat)] }) = _
  unfold Ks608.withResponses aCombination
  rw [parse_is]
  have ep : Ks608.isValidProportion k.toNat m.toNat = (share k && share m) := by
    rw [Bool.eq_iff_iff]
    unfold Ks608.isValidProportion share
    simp only [Bool.and_eq_true, decide_eq_true_eq, within_iff]
    omega
  by_cases g : given ps bs = true
  · rw [if_pos g]
    simp only
    rw [mixture_is hx, mixture_is hy, ep, g, Bool.true_and]
    by_cases c : (share k && share m && (mixture ps.length xs && mixture ps.length ys)) = true
    · rw [if_pos c]
      simp only [Bool.and_eq_true] at c
      obtain ⟨⟨c1, c2⟩, c3, c4⟩ := c
      obtain ⟨h1, h4, hb, _, _⟩ := given_iff.mp g
      have l1 := (mixture_iff.mp c3).1
      have l2 := (mixture_iff.mp c4).1
      have p1 := mix_pos c3
      have p2 := mix_pos c4
      have k1 := (within_iff.mp c1).1
      have m1 := (within_iff.mp c2).1
      rw [if_neg (by simp [c1, c2, c3, c4]), fractions_is hx, fractions_is hy, combine_is (by omega) (by omega) (l1.trans l2.symm) p1 p2,
        predict_is h1 h4 hb ((combined_len (l1.trans l2.symm)).trans l1) (by rw [combined_sum (l1.trans l2.symm)]; exact Int.mul_pos (by omega) (Int.mul_pos p1 p2)), predict_is h1 h4 hb l1 p1, predict_is h1 h4 hb l2 p2]
      have t1 := told_pos ps bs xs p1
      have t2 := told_pos ps bs ys p2
      rw [mean_is (by omega) (by omega) t1.1 t2.1 t1.2 t2.2]
      rfl
    · rw [if_neg c, if_pos]
      · rfl
      · revert c
        cases mixture ps.length xs <;> cases mixture ps.length ys <;> cases share k <;> cases share m <;> simp
  · rw [if_neg g, if_neg (by simp [g])]
    rfl
end Pb
namespace Pb
open PySem PySem.Spec PyProof.Rows L2
/-! ### words over the layer -/
/-- a def of the text by its name: where it stands, what it promises -/
def Has (P : Program) (w : World) (K : PySem.W.Frag) (mg : Str → Option Value) (base : Heap) (k : Nat) (x : Str) (ps : List Str) (sp : Sp) : Prop :=
  ∃ f fd, mg x = some (.ref f) ∧ PySem.W.keepIn K (.ref f) = true ∧ Binds K fd ps [] ∧ FnOk P w K mg base CX0 k f fd ps sp
/-- a call of it -/
theorem pe_has {X : Cx} {k j : Nat} {x : Str} {p pos : Pos} {e : Expr} {es : List Expr} {ps : List Str} {sp : Sp} {t : TA} (G : Has X.prog X.w X.K X.mg X.base j x ps sp) (hr : Room k X.A) (hjk : j ≤ k) (hg : Gl X x)
    (ha : PA X (e :: es) t) (hdb : (x == ("__debug__" : Str)) = false := by decide) (he : starEach (e :: es) X.env = (false, eval e X.env) :: starEach es X.env := by rfl) (hpl : (backTo pos (starEach es X.env)).any (·.1) = false := by rfl) :
    PE X (.Call (.Name x p) (e :: es) [] pos) (tCall sp [] E0 t) := by
  obtain ⟨f, fd, hm, hk, hb, F⟩ := G
  exact pe_call F (hr.mono hjk) hg hm hk hb .nil pass0 ha hdb he hpl
theorem same_upd {H : Hp} {p : Addr} {o : HO} (h : H p = none) : Same H (upd H p o) := fun b x e => by
  rw [upd_ne (ne_of_none e h)]
  exact e
/-- a change of what was not there at first -/
theorem same_new {H H' : Hp} {p : Addr} {o : HO} (s : Same H H') (h : H p = none) : Same H (upd H' p o) := fun b x e => by
  rw [upd_ne (ne_of_none e h)]
  exact s b x e
theorem Same.tup {K : PySem.W.Frag} {H H' : Hp} {a : Addr} {xs : List V} (e : Same H H') (h : SqT K H a xs) : SqT K H' a xs := by
  rcases h with (h | ⟨o, h⟩) | h
  · exact .inl (.inl (e _ _ h))
  · exact .inl (.inr ⟨o, e _ _ h⟩)
  · exact .inr h
theorem map_at {α : Type} {f : α → V} {l : List α} {i : Nat} {x : V} (h : (l.map f)[i]? = some x) : ∃ z, l[i]? = some z ∧ x = f z := by
  rw [List.getElem?_map] at h
  cases e : l[i]? with
  | none =>
    rw [e] at h
    cases h
  | some z =>
    rw [e] at h
    exact ⟨z, rfl, (Option.some.inj h).symm⟩
theorem at_map {α : Type} {f : α → V} {l : List α} {i : Nat} {z : α} (h : l[i]? = some z) : (l.map f)[i]? = some (f z) := by
  rw [List.getElem?_map, h]
  rfl
/-- pairs of whole numbers as they lie in the heap -/
def PairsAt (H : Hp) (as : List Addr) (ps : List (Nat × Nat)) : Prop := as.length = ps.length ∧ ∀ (i : Nat) (a : Addr) (p : Nat × Nat), as[i]? = some a → ps[i]? = some p → H a = some (.tup [.int (p.1 : Nat), .int (p.2 : Nat)])
theorem PairsAt.nil {H : Hp} : PairsAt H [] [] := ⟨rfl, fun i a p h => by simp at h⟩
theorem PairsAt.keep {H H' : Hp} {as : List Addr} {ps : List (Nat × Nat)} (h : PairsAt H as ps) (k : ∀ a xs, H a = some (.tup xs) → H' a = some (.tup xs)) : PairsAt H' as ps :=
  ⟨h.1, fun i a p h1 h2 => k _ _ (h.2 i a p h1 h2)⟩
theorem PairsAt.same {H H' : Hp} {as : List Addr} {ps : List (Nat × Nat)} (h : PairsAt H as ps) (s : Same H H') : PairsAt H' as ps := h.keep fun a xs e => s a _ e
theorem PairsAt.app {H : Hp} {as bs : List Addr} {ps qs : List (Nat × Nat)} (h : PairsAt H as ps) (h2 : PairsAt H bs qs) : PairsAt H (as ++ bs) (ps ++ qs) := by
  refine ⟨by rw [List.length_append, List.length_append, h.1, h2.1], fun i a p e1 e2 => ?_⟩
  by_cases hi : i < as.length
  · rw [List.getElem?_append_left hi] at e1
    rw [List.getElem?_append_left (by rw [← h.1]; exact hi)] at e2
    exact h.2 i a p e1 e2
  · rw [List.getElem?_append_right (by omega)] at e1
    rw [List.getElem?_append_right (by rw [← h.1]; omega), ← h.1] at e2
    exact h2.2 _ a p e1 e2
theorem PairsAt.one {H : Hp} {a : Addr} {p : Nat × Nat} (h : H a = some (.tup [.int (p.1 : Nat), .int (p.2 : Nat)])) : PairsAt H [a] [p] := by
  refine ⟨rfl, fun i b q e1 e2 => ?_⟩
  match i, e1, e2 with
  | 0, e1, e2 =>
    cases Option.some.inj e1
    cases Option.some.inj e2
    exact h
/-- a store to a list keeps the tuples -/
theorem keep_upd {H : Hp} {l : Addr} {xs : List V} {o : HO} (h : H l = some (.lst xs)) : ∀ a ys, H a = some (.tup ys) → upd H l o a = some (.tup ys) := fun a ys e => by
  rw [upd_ne (ne_of e h (by intro z; cases z))]
  exact e
theorem keep_new {H : Hp} {l : Addr} {o : HO} (h : H l = none) : ∀ a ys, H a = some (.tup ys) → upd H l o a = some (.tup ys) := fun a ys e => same_upd h a _ e
theorem yes_if {σ : L2.St} {H : Hp} {A B : Hp → Prop} (h : A H) : tYes σ H (fun b H3 => if b = true then A H3 else B H3) := by
  show if true = true then A H else B H
  exact iteT h
theorem small6 {n : Nat} (h : n ≤ 100) : n < sizeLine := small1000 (by omega)
end Pb
namespace Pb
open PySem PySem.Spec PyProof.Rows L2
/-- the i-th statement of the program's text -/
def topS (i : Nat) : Stmt := PySem.Challenge.pw_pairblend_s04_predict_combination.main.body.getD i (.Pass ⟨0, 0, 0, 0⟩)
end Pb
namespace Pb
open PySem PySem.Spec PyProof.Rows L2
section
variable {P : Program} {w : World} {K : PySem.W.Frag} {mg : Str → Option Value} {base : Heap}
/-! ### is_within(number, least, most) -/
abbrev sWithin : Stmt := topS 5
theorem scWithin : FnScope ["number", "least", "most"] ["number", "least", "most"] (defScope sWithin) := ⟨rfl, rfl, rfl, by decide +kernel, rfl, by decide +kernel, by decide +kernel⟩
def spWithin : Sp := fun vs H Q _ => ∃ x lo hi : Int, vs = [.int x, .int lo, .int hi] ∧ Q (.bl (within lo hi x)) H
theorem ok_within {f : Addr} {fd : FuncData} (F : Fun K "is_within" "is_within" sWithin f fd) : FnOk P w K mg base CX0 1 f fd ["number", "least", "most"] spWithin := by
  refine F.ok scWithin (fun vs H Q E h => ?_) (fun cdv A outer s H vs Q E hr h => ?_)
  · obtain ⟨x, lo, hi, rfl, _⟩ := h
    rfl
  · obtain ⟨x, lo, hi, rfl, q⟩ := h
    refine ⟨_, pss_one (ps_ret (pe_and (pe_cmpR op_le (pv 1) (pv 0) (nomark _)) (pe_one (pe_cmpR op_le (pv 0) (pv 2) (nomark _))))), ?_⟩
    refine ⟨_, rfl, _, rfl, _, _, rfl, rfl, _, rfl, ite2 (fun e => ?_) (fun e => ?_)⟩
    · refine ⟨_, rfl, _, rfl, _, _, rfl, rfl, ?_⟩
      have q' := q
      unfold within at q'
      rw [e, Bool.true_and] at q'
      exact q'
    · have q' := q
      unfold within at q'
      rw [Bool.eq_false_iff.mpr e, Bool.false_and] at q'
      exact q'
end
end Pb
namespace Pb
open PySem PySem.Spec PyProof.Rows L2
section
variable {P : Program} {w : World} {K : PySem.W.Frag} {mg : Str → Option Value} {base : Heap}
/-! ### are_responses(numbers) -/
abbrev sResponses : Stmt := topS 6
theorem scResponses : FnScope ["numbers", "number"] ["numbers"] (defScope sResponses) := ⟨rfl, rfl, rfl, by decide +kernel, rfl, by decide +kernel, by decide +kernel⟩
def spResponses (K : PySem.W.Frag) : Sp := fun vs H Q _ => ∃ (a : Addr) (ns : List Int), vs = [.ref a] ∧ SqL K H a (ns.map V.int) ∧ ns.length ≤ 8 ∧ ∀ H', Same H H' → Q (.bl (ns.all (within (-999) 999))) H'
theorem ok_responses {f : Addr} {fd : FuncData} (F : Fun K "are_responses" "are_responses" sResponses f fd) (W : Has P w K mg base 1 "is_within" ["number", "least", "most"] spWithin)
    (gG : ∃ t, mg "GREATEST_RESPONSE" = some (.int 999 t)) (ma : mg "all" = none) : FnOk P w K mg base CX0 2 f fd ["numbers"] (spResponses K) := by
  obtain ⟨t1, gG⟩ := gG
  refine F.ok scResponses (fun vs H Q E h => ?_) (fun cdv A outer s H vs Q E hr h => ?_)
  · obtain ⟨a, ns, rfl, _⟩ := h
    rfl
  · obtain ⟨a, ns, rfl, hS, hl, q⟩ := h
    refine ⟨_, pss_one (ps_ret (pe_callB (cr_all rfl) (by rfl) ma (by decide +kernel) (pa_cons
      (pe_lc (own := [("number", 1)]) (g := gName 1) (tt := tYes) rfl scResponses.nd (pi_list (pv 0)) (blkOk_by (own := [("number", 1)]) (N := ["numbers", "number"]) (sc := defScope sResponses) (by decide +kernel))
        (fun _ _ _ _ _ => pg_name (i := 1) scResponses.nd rfl (Or.inl rfl)) (fun _ _ _ _ _ => pts_nil)
        (fun _ _ _ _ _ => pe_has W hr (by decide) (by rfl) (pa_cons (pv 1) (pa_cons (pe_op op_sub pe_int (pe_glob (v := .int 999) (by rfl) gG ⟨_, rfl⟩)) (pa_cons (pe_glob (v := .int 999) (by rfl) gG ⟨_, rfl⟩) pa_nil))))) pa_nil))), ?_⟩
    refine ⟨_, rfl, a, rfl, ⟨_, hS⟩, fun D nD => lc_list (K := K) (a := a) (xs := ns.map V.int) (fun i H' => Same H H' ∧ H' D = some (.lst (((ns.take i).map (within (-999) 999)).map V.bl)))
      ⟨same_upd nD, upd_same⟩ (fun i H' _ p => p.1.seq hS) ?_ ?_⟩
    · rintro i x H' hx ⟨s1, eD⟩
      obtain ⟨z, hz, rfl⟩ := map_at hx
      refine ⟨rfl, yes_if ?_⟩
      refine ⟨_, rfl, _, _, rfl, rfl, z, -999, 999, rfl, _, eD, ?_, same_new s1 nD, ?_⟩
      · rw [List.length_map, List.length_map, List.length_take]
        exact small6 (by omega)
      · rw [upd_same, take_next hz, List.map_append, List.map_append]
        rfl
    · rintro H' ⟨s1, eD⟩
      rw [List.length_map, List.take_length] at eD
      refine ⟨D, _, rfl, .inl (.inl eD), ?_⟩
      rw [List.all_map]
      exact q H' s1
end
end Pb
namespace Pb
open PySem PySem.Spec PyProof.Rows L2
section
variable {P : Program} {w : World} {K : PySem.W.Frag} {mg : Str → Option Value} {base : Heap}
/-! ### pair_count(components) -/
abbrev sPairCount : Stmt := topS 7
theorem scPairCount : FnScope ["components"] ["components"] (defScope sPairCount) := ⟨rfl, rfl, rfl, by decide +kernel, rfl, by decide +kernel, by decide +kernel⟩
def spPairCount : Sp := fun vs H Q _ => ∃ c : Int, vs = [.int c] ∧ (0 ≤ c ∧ c ≤ 100) ∧ Q (.int (c * (c - 1) / 2)) H
theorem ok_paircount {f : Addr} {fd : FuncData} (F : Fun K "pair_count" "pair_count" sPairCount f fd) : FnOk P w K mg base CX0 1 f fd ["components"] spPairCount := by
  refine F.ok scPairCount (fun vs H Q E h => ?_) (fun cdv A outer s H vs Q E hr h => ?_)
  · obtain ⟨c, rfl, _⟩ := h
    rfl
  · obtain ⟨c, rfl, hc, q⟩ := h
    refine ⟨_, pss_one (ps_ret (pe_op op_fdiv (pe_op op_mul (pv 0) (pe_op op_sub (pv 0) pe_int)) pe_int)), ?_⟩
    exact ⟨_, rfl, _, rfl, _, _, rfl, rfl, _, _, rfl, rfl, .inl (by omega), _, _, rfl, rfl, ⟨by decide, by decide⟩, q⟩
end
end Pb
namespace Pb
open PySem PySem.Spec PyProof.Rows L2
section
variable {P : Program} {w : World} {K : PySem.W.Frag} {mg : Str → Option Value} {base : Heap}
/-! ### are_given(pure, binary) -/
abbrev sGiven : Stmt := topS 8
theorem scGiven : FnScope ["pure", "binary"] ["pure", "binary"] (defScope sGiven) := ⟨rfl, rfl, rfl, by decide +kernel, rfl, by decide +kernel, by decide +kernel⟩
def spGiven (K : PySem.W.Frag) : Sp := fun vs H Q _ => ∃ (a b : Addr) (ps bs : List Int), vs = [.ref a, .ref b] ∧ SqL K H a (ps.map V.int) ∧ SqL K H b (bs.map V.int) ∧ ps.length ≤ 8 ∧ bs.length ≤ 8 ∧ ∀ H', Same H H' → Q (.bl (given ps bs)) H'
theorem ok_given {f : Addr} {fd : FuncData} (F : Fun K "are_given" "are_given" sGiven f fd) (W : Has P w K mg base 1 "is_within" ["number", "least", "most"] spWithin)
    (R : Has P w K mg base 2 "are_responses" ["numbers"] (spResponses K)) (C : Has P w K mg base 1 "pair_count" ["components"] spPairCount)
    (gM : ∃ t, mg "MOST_COMPONENTS" = some (.int 4 t)) (ml : mg "len" = none) : FnOk P w K mg base CX0 3 f fd ["pure", "binary"] (spGiven K) := by
  obtain ⟨t1, gM⟩ := gM
  refine F.ok scGiven (fun vs H Q E h => ?_) (fun cdv A outer s H vs Q E hr h => ?_)
  · obtain ⟨a, b, ps, bs, rfl, _⟩ := h
    rfl
  · obtain ⟨a, b, ps, bs, rfl, hA, hB, lA, lB, q⟩ := h
    refine ⟨_, pss_cons (ps_if (PW.pt (pw_or (pt_not (pt_val (pe_has W hr (by decide) (by rfl) (pa_cons (pe_callB call_len_seq (by rfl) ml PySem.boot_len (pa_cons (pv 0) pa_nil)) (pa_cons pe_int (pa_cons (pe_glob (v := .int 4) (by rfl) gM ⟨_, rfl⟩) pa_nil))))))
        (pw_or1 (pt_cmpR op_ne (pe_callB call_len_seq (by rfl) ml PySem.boot_len (pa_cons (pv 1) pa_nil)) (pe_has C hr (by decide) (by rfl) (pa_cons (pe_callB call_len_seq (by rfl) ml PySem.boot_len (pa_cons (pv 0) pa_nil)) pa_nil)) (nomark _)))))
        (pss_one (ps_ret pe_bl)) pss_nil)
      (pss_one (ps_ret (pe_and (pe_has R hr (by decide) (by rfl) (pa_cons (pv 0) pa_nil)) (pe_one (pe_has R hr (by decide) (by rfl) (pa_cons (pv 1) pa_nil)))))), ?_⟩
    refine ⟨_, rfl, a, _, rfl, .inl hA, _, _, _, rfl, _, rfl, ?_⟩
    rw [List.length_map]
    by_cases e1 : within 1 4 (ps.length : Int) = true
    · rw [e1]
      refine iteF ⟨_, rfl, b, _, rfl, .inl hB, _, rfl, a, _, rfl, .inl hA, _, rfl, ⟨by omega, by rw [List.length_map]; omega⟩, rfl, _, rfl, ?_⟩
      rw [List.length_map, List.length_map]
      by_cases e2 : (bs.length : Int) = (ps.length : Int) * ((ps.length : Int) - 1) / 2
      · rw [decide_eq_true (congrArg V.int e2)]
        refine iteF ⟨_, rfl, a, ps, rfl, hA, lA, fun H1 s1 => ⟨_, rfl, ?_⟩⟩
        rw [given_yes e1 e2] at q
        by_cases e3 : ps.all (within (-999) 999) = true
        · rw [e3] at q ⊢
          refine iteT ⟨_, rfl, b, bs, rfl, s1.seq hB, lB, fun H2 s2 => ?_⟩
          rw [Bool.true_and] at q
          exact q H2 (s1.trans s2)
        · rw [Bool.eq_false_iff.mpr e3] at q ⊢
          rw [Bool.false_and] at q
          exact iteF (q H1 s1)
      · rw [decide_eq_false (fun z => e2 (V.int.inj z))]
        refine iteT ?_
        have q' := q H (Same.refl H)
        rw [given_no2 e1 e2] at q'
        exact q'
    · rw [Bool.eq_false_iff.mpr e1]
      refine iteT (iteT ?_)
      have q' := q H (Same.refl H)
      rw [given_no1 e1] at q'
      exact q'
end
end Pb
namespace Pb
open PySem PySem.Spec PyProof.Rows L2
section
variable {P : Program} {w : World} {K : PySem.W.Frag} {mg : Str → Option Value} {base : Heap}
/-! ### is_mixture(components, parts) -/
abbrev sMixture : Stmt := topS 9
theorem scMixture : FnScope ["components", "parts", "part"] ["components", "parts"] (defScope sMixture) := ⟨rfl, rfl, rfl, by decide +kernel, rfl, by decide +kernel, by decide +kernel⟩
def spMixture (K : PySem.W.Frag) : Sp := fun vs H Q _ => ∃ (n : Nat) (a : Addr) (xs : List Int), vs = [.int (n : Nat), .ref a] ∧ SqL K H a (xs.map V.int) ∧ xs.length ≤ 8 ∧ ∀ H', Same H H' → Q (.bl (mixture n xs)) H'
theorem ok_mixture {f : Addr} {fd : FuncData} (F : Fun K "is_mixture" "is_mixture" sMixture f fd) (W : Has P w K mg base 1 "is_within" ["number", "least", "most"] spWithin)
    (gM : ∃ t, mg "MOST_OF_ONE" = some (.int 99 t)) (ml : mg "len" = none) (ms : mg "sum" = none) (ma : mg "all" = none) : FnOk P w K mg base CX0 2 f fd ["components", "parts"] (spMixture K) := by
  obtain ⟨t1, gM⟩ := gM
  refine F.ok scMixture (fun vs H Q E h => ?_) (fun cdv A outer s H vs Q E hr h => ?_)
  · obtain ⟨n, a, xs, rfl, _⟩ := h
    rfl
  · obtain ⟨n, a, xs, rfl, hS, hl, q⟩ := h
    refine ⟨_, pss_cons (ps_if (PW.pt (pw_or (pt_cmpR op_ne (pe_callB call_len_seq (by rfl) ml PySem.boot_len (pa_cons (pv 1) pa_nil)) (pv 0) (nomark _))
          (pw_or1 (pt_cmpR op_eq (pe_callB (cr_sum rfl) (by rfl) ms (by decide +kernel) (pa_cons (pv 1) pa_nil)) pe_int (nomark _)))))
        (pss_one (ps_ret pe_bl)) pss_nil)
      (pss_one (ps_ret (pe_callB (cr_all rfl) (by rfl) ma (by decide +kernel) (pa_cons
      (pe_lc (own := [("part", 2)]) (g := gName 2) (tt := tYes) rfl scMixture.nd (pi_list (pv 1)) (blkOk_by (own := [("part", 2)]) (N := ["components", "parts", "part"]) (sc := defScope sMixture) (by decide +kernel))
        (fun _ _ _ _ _ => pg_name (i := 2) scMixture.nd rfl (Or.inl rfl)) (fun _ _ _ _ _ => pts_nil)
        (fun _ _ _ _ _ => pe_has W hr (by decide) (by rfl) (pa_cons (pv 2) (pa_cons pe_int (pa_cons (pe_glob (v := .int 99) (by rfl) gM ⟨_, rfl⟩) pa_nil))))) pa_nil)))), ?_⟩
    refine ⟨_, rfl, a, _, rfl, .inl hS, _, rfl, rfl, _, rfl, ?_⟩
    rw [List.length_map]
    by_cases e1 : xs.length = n
    · rw [decide_eq_true (show V.int ((xs.length : Nat) : Int) = V.int (n : Nat) by rw [e1])]
      refine iteF ⟨_, rfl, a, xs, rfl, hS, rfl, _, rfl, ?_⟩
      by_cases e2 : xs.sum = 0
      · rw [decide_eq_true (congrArg V.int e2)]
        refine iteT ?_
        have q' := q H (Same.refl H)
        rw [mixture_no2 e2] at q'
        exact q'
      · rw [decide_eq_false (fun z => e2 (V.int.inj z))]
        rw [mixture_yes e1 e2] at q
        refine iteF ⟨_, rfl, a, rfl, ⟨_, hS⟩, fun D nD => lc_list (K := K) (a := a) (xs := xs.map V.int) (fun i H' => Same H H' ∧ H' D = some (.lst (((xs.take i).map (within 0 99)).map V.bl)))
          ⟨same_upd nD, upd_same⟩ (fun i H' _ p => p.1.seq hS) ?_ ?_⟩
        · rintro i x H' hx ⟨s1, eD⟩
          obtain ⟨z, hz, rfl⟩ := map_at hx
          refine ⟨rfl, yes_if ?_⟩
          refine ⟨_, rfl, z, 0, 99, rfl, _, eD, ?_, same_new s1 nD, ?_⟩
          · rw [List.length_map, List.length_map, List.length_take]
            exact small6 (by omega)
          · rw [upd_same, take_next hz, List.map_append, List.map_append]
            rfl
        · rintro H' ⟨s1, eD⟩
          rw [List.length_map, List.take_length] at eD
          refine ⟨D, _, rfl, .inl (.inl eD), ?_⟩
          rw [List.all_map]
          exact q H' s1
    · rw [decide_eq_false (show ¬ V.int ((xs.length : Nat) : Int) = V.int (n : Nat) from fun z => e1 (Int.ofNat.inj (V.int.inj z)))]
      refine iteT (iteT ?_)
      have q' := q H (Same.refl H)
      rw [mixture_no1 e1] at q'
      exact q'
end
end Pb
namespace Pb
open PySem PySem.Spec PyProof.Rows L2
section
variable {P : Program} {w : World} {K : PySem.W.Frag} {mg : Str → Option Value} {base : Heap}
/-! ### is_share(number) -/
abbrev sShare : Stmt := topS 10
theorem scShare : FnScope ["number"] ["number"] (defScope sShare) := ⟨rfl, rfl, rfl, by decide +kernel, rfl, by decide +kernel, by decide +kernel⟩
def spShare : Sp := fun vs H Q _ => ∃ k : Int, vs = [.int k] ∧ Q (.bl (share k)) H
theorem ok_share {f : Addr} {fd : FuncData} (F : Fun K "is_share" "is_share" sShare f fd) (W : Has P w K mg base 1 "is_within" ["number", "least", "most"] spWithin)
    (gM : ∃ t, mg "GREATEST_SHARE" = some (.int 99 t)) : FnOk P w K mg base CX0 2 f fd ["number"] spShare := by
  obtain ⟨t1, gM⟩ := gM
  refine F.ok scShare (fun vs H Q E h => ?_) (fun cdv A outer s H vs Q E hr h => ?_)
  · obtain ⟨k, rfl, _⟩ := h
    rfl
  · obtain ⟨k, rfl, q⟩ := h
    refine ⟨_, pss_one (ps_ret (pe_has W hr (by decide) (by rfl) (pa_cons (pv 0) (pa_cons pe_int (pa_cons (pe_glob (v := .int 99) (by rfl) gM ⟨_, rfl⟩) pa_nil))))), ?_⟩
    exact ⟨_, rfl, k, 1, 99, rfl, q⟩
end
end Pb
namespace Pb
open PySem PySem.Spec PyProof.Rows L2
section
variable {P : Program} {w : World} {K : PySem.W.Frag} {mg : Str → Option Value} {base : Heap}
/-! ### common_divisor(one, other) -/
abbrev sDivisor : Stmt := topS 12
theorem scDivisor : FnScope ["one", "other"] ["one", "other"] (defScope sDivisor) := ⟨rfl, rfl, rfl, by decide +kernel, rfl, by decide +kernel, by decide +kernel⟩
def spDivisor : Sp := fun vs H Q _ => ∃ x y : Nat, vs = [.int (x : Nat), .int (y : Nat)] ∧ Q (.int (Nat.gcd x y : Nat)) H
theorem gcd_turn (x y : Nat) : Nat.gcd y (x % y) = Nat.gcd x y := by
  rw [Nat.gcd_comm y, ← Nat.gcd_rec, Nat.gcd_comm]
theorem ok_divisor {f : Addr} {fd : FuncData} (F : Fun K "common_divisor" "common_divisor" sDivisor f fd) : FnOk P w K mg base CX0 1 f fd ["one", "other"] spDivisor := by
  refine F.ok scDivisor (fun vs H Q E h => ?_) (fun cdv A outer s H vs Q E hr h => ?_)
  · obtain ⟨x, y, rfl, _⟩ := h
    rfl
  · obtain ⟨x, y, rfl, q⟩ := h
    refine ⟨_, pss_cons (ps_while PassesOwn.never (pt_cmpR op_gt (pv 1) pe_int (nomark _))
        (pss_one (ps_par (i := 0) (j := 1) (by rfl) scDivisor.nd rfl rfl (by decide) rfl rfl (pa_cons (pv 1) (pa_cons (pe_op op_modN (pv 0) (pv 1)) pa_nil)) (by rfl))))
      (pss_one (ps_ret (pv 0))), ?_⟩
    refine ⟨fun m σ H' => ∃ a b : Nat, m = b ∧ σ = [some (.int (a : Nat)), some (.int (b : Nat))] ∧ Nat.gcd a b = Nat.gcd x y ∧ H' = H, ⟨y, x, y, rfl, rfl, rfl, rfl⟩, ?_⟩
    rintro m σ H' ⟨a, b, rfl, rfl, e, rfl⟩
    refine ⟨_, rfl, _, _, rfl, rfl, _, rfl, ite2 (fun t => ?_) (fun t => ?_)⟩
    · have hb : (0 : Int) < (m : Nat) := of_decide_eq_true t
      refine ⟨fun σ' H2 => σ' = [some (.int (m : Nat)), some (.int ((a % m : Nat) : Int))] ∧ H2 = H', ?_, ?_⟩
      · rintro σ' H2 ⟨rfl, rfl⟩
        exact ⟨a % m, Nat.mod_lt _ (by omega), m, a % m, rfl, rfl, (gcd_turn a m).trans e, rfl⟩
      · refine ⟨_, rfl, _, rfl, _, rfl, _, _, rfl, rfl, (by omega), _, _, rfl, ?_, rfl⟩
        show [some (V.int (m : Nat)), some (V.int (Int.fmod (a : Nat) (m : Nat)))] = _
        rw [Int.fmod_eq_emod_of_nonneg _ (by omega)]
        rfl
    · have hb : ¬ (0 : Int) < (m : Nat) := fun z => t (decide_eq_true z)
      have e0 : m = 0 := by omega
      rw [e0, Nat.gcd_zero_right] at e
      rw [← e] at q
      exact ⟨_, rfl, q⟩
end
end Pb
namespace Pb
open PySem PySem.Spec PyProof.Rows L2
section
variable {P : Program} {w : World} {K : PySem.W.Frag} {mg : Str → Option Value} {base : Heap}
/-! ### rational(numerator, denominator) -/
abbrev sRational : Stmt := topS 13
theorem scRational : FnScope ["numerator", "denominator", "divisor"] ["numerator", "denominator"] (defScope sRational) := ⟨rfl, rfl, rfl, by decide +kernel, rfl, by decide +kernel, by decide +kernel⟩
def spRational : Sp := fun vs H Q _ => ∃ z d : Int, vs = [.int z, .int d] ∧ 0 < d ∧ d < 2 ^ 200 ∧
  ∀ (H' : Hp) (t : Addr), Same H H' → H t = none → H' t = some (.tup [.int (Ks604.Rational.make z d.toNat).num, .int ((Ks604.Rational.make z d.toNat).den : Nat)]) → Q (.ref t) H'
theorem ok_rational {f : Addr} {fd : FuncData} (F : Fun K "rational" "rational" sRational f fd) (C : Has P w K mg base 1 "common_divisor" ["one", "other"] spDivisor) (mb : mg "abs" = none) : FnOk P w K mg base CX0 2 f fd ["numerator", "denominator"] spRational := by
  refine F.ok scRational (fun vs H Q E h => ?_) (fun cdv A outer s H vs Q E hr h => ?_)
  · obtain ⟨z, d, rfl, _⟩ := h
    rfl
  · obtain ⟨z, d, rfl, h0, h1, q⟩ := h
    refine ⟨_, pss_cons (ps_set (i := 2) scRational.nd rfl (.inl rfl) (pe_has C hr (by decide) (by rfl) (pa_cons (pe_callB call_abs (by rfl) mb (by decide +kernel) (pa_cons (pv 0) pa_nil)) (pa_cons (pv 1) pa_nil))))
      (pss_one (ps_ret (pe_tup (pa_cons (pe_op op_fdivW (pv 0) (pv 2)) (pa_cons (pe_op op_fdivW (pv 1) (pv 2)) pa_nil))))), ?_⟩
    obtain ⟨n, rfl⟩ : ∃ n : Nat, d = (n : Int) := ⟨d.toNat, by omega⟩
    have hn : 0 < n := by omega
    have hg := gpos (a := z.natAbs) hn
    have hgn : Nat.gcd z.natAbs n ≤ n := Nat.le_of_dvd hn (Nat.gcd_dvd_right _ _)
    have e1 : (if z < 0 then -z else z) = ((z.natAbs : Nat) : Int) := by
      split <;> omega
    have hlog : (Nat.gcd z.natAbs n).log2 < 9000 := by
      refine Nat.lt_of_lt_of_le ((Nat.log2_lt (k := 200) (by omega)).mpr ?_) (by decide)
      have : (n : Int) < ((2 ^ 200 : Nat) : Int) := h1
      omega
    rw [Int.toNat_natCast, make_num hn, make_den hn] at q
    refine ⟨_, rfl, z, rfl, _, rfl, z.natAbs, n, ?_, _, rfl, _, rfl, _, _, rfl, rfl, ⟨by omega, hlog⟩, _, rfl, _, rfl, _, _, rfl, rfl, ⟨by omega, hlog⟩, (by show 2 ≤ sizeLine; decide), fun t nt => q _ t (same_upd nt) nt ?_⟩
    · rw [e1]
      rfl
    · rw [upd_same]
      rfl
end
end Pb
namespace Pb
open PySem PySem.Spec PyProof.Rows L2
section
variable {P : Program} {w : World} {K : PySem.W.Frag} {mg : Str → Option Value} {base : Heap}
/-! ### mean(one, other, one_share, other_share) -/
abbrev sMean : Stmt := topS 14
theorem scMean : FnScope ["one", "other", "one_share", "other_share", "shares", "top"] ["one", "other", "one_share", "other_share"] (defScope sMean) := ⟨rfl, rfl, rfl, by decide +kernel, rfl, by decide +kernel, by decide +kernel⟩
def spMean (K : PySem.W.Frag) : Sp := fun vs H Q _ => ∃ (a b : Addr) (x y : Ks604.Rational) (k m : Int), vs = [.ref a, .ref b, .int k, .int m] ∧ SqT K H a [.int x.num, .int (x.den : Nat)] ∧ SqT K H b [.int y.num, .int (y.den : Nat)] ∧ (1 ≤ k ∧ k ≤ 99) ∧ (1 ≤ m ∧ m ≤ 99) ∧
  (0 < x.den ∧ x.den ≤ 1000000000000) ∧ (0 < y.den ∧ y.den ≤ 1000000000000) ∧
  ∀ (H' : Hp) (t : Addr), Same H H' → H t = none → H' t = some (.tup [.int (mean x y k m).num, .int ((mean x y k m).den : Nat)]) → Q (.ref t) H'
theorem ok_mean {f : Addr} {fd : FuncData} (F : Fun K "mean" "mean" sMean f fd) (R : Has P w K mg base 2 "rational" ["numerator", "denominator"] spRational) :
    FnOk P w K mg base CX0 3 f fd ["one", "other", "one_share", "other_share"] (spMean K) := by
  refine F.ok scMean (fun vs H Q E h => ?_) (fun cdv A outer s H vs Q E hr h => ?_)
  · obtain ⟨a, b, x, y, k, m, rfl, _⟩ := h
    rfl
  · obtain ⟨a, b, x, y, k, m, rfl, hA, hB, hk, hm, hx, hy, q⟩ := h
    refine ⟨_, pss_cons (ps_set (i := 4) scMean.nd rfl (.inl rfl) (pe_op op_add (pv 2) (pv 3)))
      (pss_cons (ps_set (i := 5) scMean.nd rfl (.inl rfl) (pe_op op_add
        (pe_op op_mul (pe_op op_mul (pv 2) (pe_ix ix_tup (pv 0) pe_int (fun _ _ => rfl))) (pe_ix ix_tup (pv 1) pe_int (fun _ _ => rfl)))
        (pe_op op_mul (pe_op op_mul (pv 3) (pe_ix ix_tup (pv 1) pe_int (fun _ _ => rfl))) (pe_ix ix_tup (pv 0) pe_int (fun _ _ => rfl)))))
      (pss_one (ps_ret (pe_has R hr (by decide) (by rfl) (pa_cons (pv 5) (pa_cons (pe_op op_mul (pe_op op_mul (pv 4) (pe_ix ix_tup (pv 0) pe_int (fun _ _ => rfl))) (pe_ix ix_tup (pv 1) pe_int (fun _ _ => rfl))) pa_nil)))))), ?_⟩
    have dx : (0 : Int) < (x.den : Nat) := by omega
    have dy : (0 : Int) < (y.den : Nat) := by omega
    have e1 : 0 < (k + m) * (x.den : Nat) * (y.den : Nat) := Int.mul_pos (Int.mul_pos (by omega) dx) dy
    have e2 : (k + m) * (x.den : Nat) * (y.den : Nat) ≤ 198 * 1000000000000 * 1000000000000 :=
      Int.mul_le_mul (Int.mul_le_mul (by omega) (by omega) (by omega) (by decide)) (by omega) (by omega) (by decide)
    refine ⟨_, rfl, _, rfl, k, m, rfl, rfl, ?_⟩
    refine ⟨_, rfl, _, rfl, a, _, 0, _, rfl, rfl, hA, atI_nat (j := 0) rfl, k, x.num, rfl, rfl, .inl (by omega), _, rfl, b, _, 1, _, rfl, rfl, hB, atI_nat (j := 1) rfl, k * x.num, (y.den : Nat), rfl, rfl, .inr (by omega), ?_⟩
    refine ⟨_, rfl, _, rfl, b, _, 0, _, rfl, rfl, hB, atI_nat (j := 0) rfl, m, y.num, rfl, rfl, .inl (by omega), _, rfl, a, _, 1, _, rfl, rfl, hA, atI_nat (j := 1) rfl, m * y.num, (x.den : Nat), rfl, rfl, .inr (by omega), _, _, rfl, rfl, ?_⟩
    refine ⟨_, rfl, _, rfl, _, rfl, a, _, 1, _, rfl, rfl, hA, atI_nat (j := 1) rfl, k + m, (x.den : Nat), rfl, rfl, .inl (by omega), _, rfl, b, _, 1, _, rfl, rfl, hB, atI_nat (j := 1) rfl, (k + m) * (x.den : Nat), (y.den : Nat), rfl, rfl, .inr (by omega), ?_⟩
    exact ⟨_, _, rfl, e1, (by omega), q⟩
end
end Pb
namespace Pb
open PySem PySem.Spec PyProof.Rows L2
section
variable {P : Program} {w : World} {K : PySem.W.Frag} {mg : Str → Option Value} {base : Heap}
/-! ### pairs(components) -/
abbrev sPairs : Stmt := topS 16
theorem scPairs : FnScope ["components", "found", "first", "second"] ["components"] (defScope sPairs) := ⟨rfl, rfl, rfl, by decide +kernel, rfl, by decide +kernel, by decide +kernel⟩
def spPairs : Sp := fun vs H Q _ => ∃ n : Nat, vs = [.int (n : Nat)] ∧ n ≤ 4 ∧ ∀ (H' : Hp) (l : Addr) (as : List Addr), Same H H' → H l = none → H' l = some (.lst (as.map V.ref)) → PairsAt H' as (prs n) → Q (.ref l) H'
theorem ok_pairs {f : Addr} {fd : FuncData} (F : Fun K "pairs" "pairs" sPairs f fd) (mr : mg "range" = none) : FnOk P w K mg base CX0 1 f fd ["components"] spPairs := by
  refine F.ok scPairs (fun vs H Q E h => ?_) (fun cdv A outer s H vs Q E hr h => ?_)
  · obtain ⟨n, rfl, _⟩ := h
    rfl
  · obtain ⟨n, rfl, hn, q⟩ := h
    refine ⟨_, pss_cons (ps_set (i := 1) scPairs.nd rfl (.inl rfl) (pe_lst pa_nil))
      (pss_cons (ps_for PassesOwn.never rfl (pi_range1 (by rfl) mr (pa_cons (pv 0) pa_nil)) (pg_name (i := 2) scPairs.nd rfl (Or.inr rfl))
        (pss_one (ps_expr (pe_bm PySem.F.plainAttrs_list PySem.F.slot_list_extend PySem.F.type_list_extend mt_extend (pv 1) (pa_cons
          (pe_lc (own := [("second", 3)]) (g := gName 3) (tt := tYes) rfl scPairs.nd (pi_range2 (by rfl) mr (pa_cons (pe_op op_add (pv 2) pe_int) (pa_cons (pv 0) pa_nil)))
            (blkOk_by (own := [("second", 3)]) (N := ["components", "found", "first", "second"]) (sc := defScope sPairs) (by decide +kernel))
            (fun _ _ _ _ _ => pg_name (i := 3) scPairs.nd rfl (Or.inl rfl)) (fun _ _ _ _ _ => pts_nil)
            (fun _ _ _ _ _ => pe_tup (pa_cons (pv 2) (pa_cons (pv 3) pa_nil)))) pa_nil)))))
      (pss_one (ps_ret (pv 1)))), ?_⟩
    refine ⟨Nat.zero_le _, fun o no => ?_⟩
    refine ⟨_, rfl, (n : Int), rfl, by omega, by omega, for_range (lo := 0) (n := n) (fun i σ H' => ∃ y, σ = [some (.int (n : Nat)), some (.ref o), y, none] ∧ Same H H' ∧ ∃ as, H' o = some (.lst (as.map V.ref)) ∧ PairsAt H' as (prsTo n i))
      ⟨none, rfl, same_upd no, [], upd_same, PairsAt.nil⟩ ?_ ?_⟩
    · rintro i σ H' hi ⟨y, rfl, s1, as, eo, pa⟩
      rw [Int.zero_add]
      refine ⟨_, rfl, .inl ⟨rfl, _, .inl (.inl eo)⟩, _, rfl, _, _, rfl, rfl, _, rfl, (i : Int) + 1, (n : Int), rfl, (by omega), fun D nD => ?_⟩
      have hDo : o ≠ D := ne_of_none eo nD
      refine lc_range (lo := (i : Int) + 1) (n := ((n : Int) - ((i : Int) + 1)).toNat) (fun j H2 => Same H' H2 ∧ ∃ bs, H2 D = some (.lst (bs.map V.ref)) ∧ PairsAt H2 bs ((List.range j).map fun j => (i, i + 1 + j)))
        ⟨same_upd nD, [], upd_same, PairsAt.nil⟩ ?_ ?_
      · rintro j H2 hj ⟨s2, bs, eD, pb⟩
        have lb := pb.1
        rw [List.length_map, List.length_range] at lb
        refine ⟨rfl, yes_if ?_⟩
        refine ⟨_, rfl, _, rfl, (by show 2 ≤ sizeLine; decide), fun t nt => ?_⟩
        have eD' : upd H2 t (.tup [.int (i : Nat), .int ((i : Int) + 1 + (j : Int))]) D = some (.lst (bs.map V.ref)) := by
          rw [upd_ne (ne_of_none eD nt)]
          exact eD
        refine ⟨_, eD', ?_, fun b x e => ?_, bs ++ [t], ?_, ?_⟩
        · rw [List.length_map]
          exact small6 (by omega)
        · rw [upd_ne (ne_of_none e nD)]
          exact same_upd nt _ _ (s2 _ _ e)
        · rw [upd_same, List.map_append]
          rfl
        · rw [List.range_succ, List.map_append]
          refine PairsAt.keep (PairsAt.app (pb.keep (keep_new nt)) (PairsAt.one ?_)) (keep_upd eD')
          rw [upd_same]
          show some (HO.tup [.int (i : Nat), .int ((i : Int) + 1 + (j : Int))]) = some (.tup [.int (i : Nat), .int ((i + 1 + j : Nat) : Int)])
          rw [Int.natCast_add, Int.natCast_add]
          rfl
      · rintro H2 ⟨s2, bs, eD, pb⟩
        have eo2 := s2 _ _ eo
        have en : ((n : Int) - ((i : Int) + 1)).toNat = n - (i + 1) := by omega
        rw [en] at pb
        have h1 := pa.1
        have h2 := pb.1
        have h3 := prsTo_small hn (Nat.le_of_lt hi)
        rw [List.length_map, List.length_range] at h2
        refine ⟨o, D, _, _, rfl, rfl, eo2, eD, ?_, some (.int (i : Int)), rfl, same_new (s1.trans s2) no, as ++ bs, ?_, ?_⟩
        · rw [List.length_map, List.length_map]
          exact Nat.le_of_lt (small6 (by omega))
        · rw [upd_same, List.map_append]
        · rw [prsTo_more]
          exact PairsAt.keep (PairsAt.app (pa.same s2) pb) (keep_upd eo2)
    · rintro σ H' ⟨y, rfl, s1, as, eo, pa⟩
      exact ⟨_, rfl, q H' o as s1 no eo pa⟩
end
end Pb
namespace Pb
open PySem PySem.Spec PyProof.Rows L2
section
variable {P : Program} {w : World} {K : PySem.W.Frag} {mg : Str → Option Value} {base : Heap}
/-! ### interaction(pure, pair, response) -/
abbrev sInteraction : Stmt := topS 17
theorem scInteraction : FnScope ["pure", "pair", "response"] ["pure", "pair", "response"] (defScope sInteraction) := ⟨rfl, rfl, rfl, by decide +kernel, rfl, by decide +kernel, by decide +kernel⟩
def spInteraction (K : PySem.W.Frag) : Sp := fun vs H Q _ => ∃ (a t : Addr) (ps : List Int) (p : Nat × Nat) (r : Int), vs = [.ref a, .ref t, .int r] ∧ SqL K H a (ps.map V.int) ∧ SqT K H t [.int (p.1 : Nat), .int (p.2 : Nat)] ∧ p.1 < ps.length ∧ p.2 < ps.length ∧
  Q (.int (inter ps p r)) H
theorem ok_interaction {f : Addr} {fd : FuncData} (F : Fun K "interaction" "interaction" sInteraction f fd) : FnOk P w K mg base CX0 1 f fd ["pure", "pair", "response"] (spInteraction K) := by
  refine F.ok scInteraction (fun vs H Q E h => ?_) (fun cdv A outer s H vs Q E hr h => ?_)
  · obtain ⟨a, t, ps, p, r, rfl, _⟩ := h
    rfl
  · obtain ⟨a, t, ps, p, r, rfl, hS, hT, l1, l2, q⟩ := h
    obtain ⟨x, ex⟩ := some_at l1
    obtain ⟨y, ey⟩ := some_at l2
    refine ⟨_, pss_one (ps_ret (pe_op op_sub (pe_op op_mul pe_int (pv 2)) (pe_op op_mul pe_int (pe_op op_add (pe_ix ix_list (pv 0) (pe_ix ix_tup (pv 1) pe_int (fun _ _ => rfl)) (fun _ _ => rfl))
      (pe_ix ix_list (pv 0) (pe_ix ix_tup (pv 1) pe_int (fun _ _ => rfl)) (fun _ _ => rfl)))))), ?_⟩
    unfold inter at q
    rw [getD_at ex, getD_at ey] at q
    refine ⟨_, rfl, 4, r, rfl, rfl, .inl (by omega), ?_⟩
    refine ⟨_, rfl, _, rfl, t, _, 0, _, rfl, rfl, hT, atI_nat (j := 0) rfl, a, _, (p.1 : Int), _, rfl, rfl, hS, atI_nat (j := p.1) (at_map ex), ?_⟩
    refine ⟨_, rfl, _, rfl, t, _, 1, _, rfl, rfl, hT, atI_nat (j := 1) rfl, a, _, (p.2 : Int), _, rfl, rfl, hS, atI_nat (j := p.2) (at_map ey), ?_⟩
    exact ⟨x, y, rfl, rfl, 2, x + y, rfl, rfl, .inl (by omega), _, _, rfl, rfl, q⟩
end
end Pb
namespace Pb
open PySem PySem.Spec PyProof.Rows L2
section
variable {P : Program} {w : World} {K : PySem.W.Frag} {mg : Str → Option Value} {base : Heap}
/-! ### all_interactions(pure, binary) -/
abbrev sInteractions : Stmt := topS 18
theorem scInteractions : FnScope ["pure", "binary", "pair", "response"] ["pure", "binary"] (defScope sInteractions) := ⟨rfl, rfl, rfl, by decide +kernel, rfl, by decide +kernel, by decide +kernel⟩
def spInteractions (K : PySem.W.Frag) : Sp := fun vs H Q _ => ∃ (a b : Addr) (ps bs : List Int), vs = [.ref a, .ref b] ∧ SqL K H a (ps.map V.int) ∧ SqL K H b (bs.map V.int) ∧ given ps bs = true ∧
  ∀ (H' : Hp) (l : Addr), Same H H' → H l = none → H' l = some (.lst ((inters ps bs).map V.int)) → Q (.ref l) H'
theorem ok_interactions {f : Addr} {fd : FuncData} (F : Fun K "all_interactions" "all_interactions" sInteractions f fd) (R : Has P w K mg base 1 "pairs" ["components"] spPairs)
    (I : Has P w K mg base 1 "interaction" ["pure", "pair", "response"] (spInteraction K)) (ml : mg "len" = none) (mz : mg "zip" = none) : FnOk P w K mg base CX0 2 f fd ["pure", "binary"] (spInteractions K) := by
  refine F.ok scInteractions (fun vs H Q E h => ?_) (fun cdv A outer s H vs Q E hr h => ?_)
  · obtain ⟨a, b, ps, bs, rfl, _⟩ := h
    rfl
  · obtain ⟨a, b, ps, bs, rfl, hA, hB, g, q⟩ := h
    refine ⟨_, pss_one (ps_ret (pe_lc (own := [("pair", 2), ("response", 3)]) (g := gTup K 2 (gCons (gName 2) (gCons (gName 3) gNil))) (tt := tYes) rfl scInteractions.nd
      (pi_zip (by rfl) mz (pa_cons (pe_has R hr (by decide) (by rfl) (pa_cons (pe_callB call_len_seq (by rfl) ml PySem.boot_len (pa_cons (pv 0) pa_nil)) pa_nil)) (pa_cons (pv 1) pa_nil)))
      (blkOk_by (own := [("pair", 2), ("response", 3)]) (N := ["pure", "binary", "pair", "response"]) (sc := defScope sInteractions) (by decide +kernel))
      (fun _ _ _ _ _ => pg_tup rfl (pgs_cons (pg_name (i := 2) scInteractions.nd rfl (Or.inl rfl)) (pgs_cons (pg_name (i := 3) scInteractions.nd rfl (Or.inl rfl)) pgs_nil))) (fun _ _ _ _ _ => pts_nil)
      (fun _ _ _ _ _ => pe_has I hr (by decide) (by rfl) (pa_cons (pv 0) (pa_cons (pv 2) (pa_cons (pv 3) pa_nil)))))), ?_⟩
    obtain ⟨h1, h4, hb, _, _⟩ := given_iff.mp g
    refine ⟨_, rfl, a, _, rfl, .inl hA, ps.length, ?_, h4, fun H1 l as s1 nl el pa => ?_⟩
    · rw [List.length_map]
      rfl
    refine ⟨_, rfl, l, b, _, _, rfl, .inl (.inl el), s1.seq hB, fun D nD => ?_⟩
    have hl := given_len g
    have hn : bs.length = min (as.map V.ref).length (bs.map V.int).length := by
      rw [List.length_map, List.length_map, pa.1, hl, Nat.min_self]
    refine lc_it (walk_zip (K := K) (a := l) (b := b) hn) (fun i H' => Same H1 H' ∧ H' D = some (.lst (((inters ps bs).take i).map V.int)))
      ⟨same_upd nD, upd_same⟩ (fun i H' _ p => ⟨.inl (.inl (p.1 _ _ el)), p.1.seq (s1.seq hB)⟩) ?_ ?_
    · rintro i v H' H2 hi ⟨s2, eD⟩ ⟨T, x, y, rfl, nT, rfl, hx, hy⟩
      obtain ⟨c, hc, rfl⟩ := map_at hx
      obtain ⟨r, hr, rfl⟩ := map_at hy
      obtain ⟨p, hp⟩ := some_at (l := prs ps.length) (i := i) (by omega)
      have hlt := prs_lt (mem_at hp)
      have ep := s2 _ _ (pa.2 i c p hc hp)
      have eD' : upd H' T (.tup [.ref c, .int r]) D = some (.lst (((inters ps bs).take i).map V.int)) := same_upd nT _ _ eD
      refine ⟨T, [.ref c, .int r], rfl, .inl (.inl upd_same), rfl, .ref c, [.int r], rfl, .int r, [], rfl, rfl, rfl, yes_if ?_⟩
      refine ⟨_, rfl, _, rfl, _, rfl, a, c, ps, p, r, rfl, ((s1.trans s2).trans (same_upd nT)).seq hA, .inl (.inl (same_upd nT _ _ ep)), hlt.1, hlt.2, _, eD', ?_, ?_, ?_⟩
      · rw [List.length_map, List.length_take]
        have := prs_small h4
        exact small6 (by omega)
      · exact same_new (s2.trans (same_upd nT)) nD
      · rw [upd_same, take_next (inters_at hp hr), List.map_append]
        rfl
    · rintro H' ⟨s2, eD⟩
      rw [List.take_of_length_le (by rw [inters_len g]; omega)] at eD
      exact q H' D (s1.trans s2) (s1.free nD) eD
end
end Pb
namespace Pb
open PySem PySem.Spec PyProof.Rows L2
section
variable {P : Program} {w : World} {K : PySem.W.Frag} {mg : Str → Option Value} {base : Heap}
/-! ### alone(pure, parts) -/
abbrev sAlone : Stmt := topS 19
theorem scAlone : FnScope ["pure", "parts", "response", "part"] ["pure", "parts"] (defScope sAlone) := ⟨rfl, rfl, rfl, by decide +kernel, rfl, by decide +kernel, by decide +kernel⟩
def spAlone (K : PySem.W.Frag) : Sp := fun vs H Q _ => ∃ (a b : Addr) (ps xs : List Int), vs = [.ref a, .ref b] ∧ SqL K H a (ps.map V.int) ∧ SqL K H b (xs.map V.int) ∧ ps.length ≤ 8 ∧ xs.length = ps.length ∧ (∀ x ∈ ps, -999 ≤ x ∧ x ≤ 999) ∧
  ∀ (H' : Hp), Same H H' → Q (.int (alone ps xs)) H'
theorem ok_alone {f : Addr} {fd : FuncData} (F : Fun K "alone" "alone" sAlone f fd) (mz : mg "zip" = none) (ms : mg "sum" = none) : FnOk P w K mg base CX0 1 f fd ["pure", "parts"] (spAlone K) := by
  refine F.ok scAlone (fun vs H Q E h => ?_) (fun cdv A outer s H vs Q E hr h => ?_)
  · obtain ⟨a, b, ps, bs, rfl, _⟩ := h
    rfl
  · obtain ⟨a, b, ps, xs, rfl, hA, hB, h8, hl, hp, q⟩ := h
    refine ⟨_, pss_one (ps_ret (pe_callB (cr_sum rfl) (by rfl) ms (by decide +kernel) (pa_cons (pe_lc (own := [("response", 2), ("part", 3)]) (g := gTup K 2 (gCons (gName 2) (gCons (gName 3) gNil))) (tt := tYes) rfl scAlone.nd
      (pi_zip (by rfl) mz (pa_cons (pv 0) (pa_cons (pv 1) pa_nil)))
      (blkOk_by (own := [("response", 2), ("part", 3)]) (N := ["pure", "parts", "response", "part"]) (sc := defScope sAlone) (by decide +kernel))
      (fun _ _ _ _ _ => pg_tup rfl (pgs_cons (pg_name (i := 2) scAlone.nd rfl (Or.inl rfl)) (pgs_cons (pg_name (i := 3) scAlone.nd rfl (Or.inl rfl)) pgs_nil))) (fun _ _ _ _ _ => pts_nil)
      (fun _ _ _ _ _ => pe_op op_mul (pv 2) (pv 3))) pa_nil))), ?_⟩
    refine ⟨_, rfl, _, rfl, a, b, _, _, rfl, hA, hB, fun D nD => ?_⟩
    have hn : ps.length = min (ps.map V.int).length (xs.map V.int).length := by
      rw [List.length_map, List.length_map, hl, Nat.min_self]
    refine lc_it (walk_zip (K := K) (a := a) (b := b) hn) (fun i H' => Same H H' ∧ H' D = some (.lst (((List.zipWith (fun a b => a * b) ps xs).take i).map V.int)))
      ⟨same_upd nD, upd_same⟩ (fun i H' _ p => ⟨p.1.seq hA, p.1.seq hB⟩) ?_ ?_
    · rintro i v H' H2 hi ⟨s2, eD⟩ ⟨T, x, y, rfl, nT, rfl, hx, hy⟩
      obtain ⟨c, hc, rfl⟩ := map_at hx
      obtain ⟨r, hr, rfl⟩ := map_at hy
      have eD' : upd H' T (.tup [.int c, .int r]) D = some (.lst (((List.zipWith (fun a b => a * b) ps xs).take i).map V.int)) := same_upd nT _ _ eD
      have hcb := hp c (mem_at hc)
      refine ⟨T, [.int c, .int r], rfl, .inl (.inl upd_same), rfl, .int c, [.int r], rfl, .int r, [], rfl, rfl, rfl, yes_if ?_⟩
      refine ⟨_, rfl, _, rfl, c, r, rfl, rfl, .inl (by omega), _, eD', ?_, ?_, ?_⟩
      · rw [List.length_map, List.length_take]
        exact small6 (by omega)
      · exact same_new (s2.trans (same_upd nT)) nD
      · rw [upd_same, take_next (zip_at (f := fun a b => a * b) hc hr), List.map_append]
        rfl
    · rintro H' ⟨s2, eD⟩
      rw [List.take_of_length_le (by rw [List.length_zipWith]; omega)] at eD
      exact ⟨D, _, rfl, .inl (.inl eD), q H' s2⟩
end
end Pb
namespace Pb
open PySem PySem.Spec PyProof.Rows L2
section
variable {P : Program} {w : World} {K : PySem.W.Frag} {mg : Str → Option Value} {base : Heap}
/-! ### together(pure, binary, parts) -/
abbrev sTogether : Stmt := topS 20
theorem scTogether : FnScope ["pure", "binary", "parts", "found", "pair", "number"] ["pure", "binary", "parts"] (defScope sTogether) := ⟨rfl, rfl, rfl, by decide +kernel, rfl, by decide +kernel, by decide +kernel⟩
def spTogether (K : PySem.W.Frag) : Sp := fun vs H Q _ => ∃ (a b c : Addr) (ps bs xs : List Int), vs = [.ref a, .ref b, .ref c] ∧ SqL K H a (ps.map V.int) ∧ SqL K H b (bs.map V.int) ∧ SqL K H c (xs.map V.int) ∧ given ps bs = true ∧ Parts ps.length xs ∧
  ∀ (H' : Hp), Same H H' → Q (.int (together ps bs xs)) H'
theorem ok_together {f : Addr} {fd : FuncData} (F : Fun K "together" "together" sTogether f fd) (R : Has P w K mg base 1 "pairs" ["components"] spPairs)
    (I : Has P w K mg base 2 "all_interactions" ["pure", "binary"] (spInteractions K)) (ml : mg "len" = none) (mz : mg "zip" = none) : FnOk P w K mg base CX0 3 f fd ["pure", "binary", "parts"] (spTogether K) := by
  refine F.ok scTogether (fun vs H Q E h => ?_) (fun cdv A outer s H vs Q E hr h => ?_)
  · obtain ⟨a, b, c, ps, bs, xs, rfl, _⟩ := h
    rfl
  · obtain ⟨a, b, c, ps, bs, xs, rfl, hA, hB, hC, g, hx, q⟩ := h
    refine ⟨_, pss_cons (ps_set (i := 3) scTogether.nd rfl (.inl rfl) pe_int)
      (pss_cons (ps_for PassesOwn.never rfl (pi_zip (by rfl) mz (pa_cons (pe_has R hr (by decide) (by rfl) (pa_cons (pe_callB call_len_seq (by rfl) ml PySem.boot_len (pa_cons (pv 0) pa_nil)) pa_nil)) (pa_cons (pe_has I hr (by decide) (by rfl) (pa_cons (pv 0) (pa_cons (pv 1) pa_nil))) pa_nil)))
        (pg_tup rfl (pgs_cons (pg_name (i := 4) scTogether.nd rfl (Or.inl rfl)) (pgs_cons (pg_name (i := 5) scTogether.nd rfl (Or.inl rfl)) pgs_nil)))
        (pss_one (ps_set (i := 3) scTogether.nd rfl (.inl rfl) (pe_op op_add (pv 3) (pe_op op_mul (pe_op op_mul (pv 5) (pe_ix ix_list (pv 2) (pe_ix ix_tup (pv 4) pe_int (fun _ _ => rfl)) (fun _ _ => rfl)))
          (pe_ix ix_list (pv 2) (pe_ix ix_tup (pv 4) pe_int (fun _ _ => rfl)) (fun _ _ => rfl)))))))
      (pss_one (ps_ret (pv 3)))), ?_⟩
    obtain ⟨h1, h4, hb, _, _⟩ := given_iff.mp g
    refine ⟨_, rfl, a, _, rfl, .inl hA, ps.length, ?_, h4, fun H1 l as s1 nl el pa => ?_⟩
    · rw [List.length_map]
      rfl
    refine ⟨_, rfl, _, rfl, a, b, ps, bs, rfl, s1.seq hA, s1.seq hB, g, fun H2 m s2 nm em => ?_⟩
    refine ⟨l, m, _, _, rfl, .inl (.inl (s2 _ _ el)), .inl (.inl em), ?_⟩
    have hn : (prs ps.length).length = min (as.map V.ref).length ((inters ps bs).map V.int).length := by
      rw [List.length_map, List.length_map, pa.1, inters_len g, Nat.min_self]
    refine for_it (walk_zip (K := K) (a := l) (b := m) hn) (fun i σ H' => ∃ y4 y5, σ = [some (.ref a), some (.ref b), some (.ref c), some (.int ((List.zipWith (term xs) (prs ps.length) (inters ps bs)).take i).sum), y4, y5] ∧ Same H2 H')
      ⟨none, none, rfl, Same.refl _⟩ (fun i σ H' _ ⟨_, _, _, p⟩ => ⟨.inl (.inl (p _ _ (s2 _ _ el))), .inl (.inl (p _ _ em))⟩) ?_ ?_
    · rintro i v σ H' H3 hi ⟨y4, y5, rfl, s3⟩ ⟨T, x, y, rfl, nT, rfl, hx1, hy⟩
      obtain ⟨d, hd, rfl⟩ := map_at hx1
      obtain ⟨z, hz, rfl⟩ := map_at hy
      obtain ⟨p, hp⟩ := some_at (l := prs ps.length) (i := i) hi
      have hlt := prs_lt (mem_at hp)
      have s4 : Same H2 (upd H' T (.tup [.ref d, .int z])) := s3.trans (same_upd nT)
      have ep := s4 _ _ (s2 _ _ (pa.2 i d p hd hp))
      obtain ⟨u, hu⟩ := some_at (l := xs) (i := p.1) (by rw [hx.len]; exact hlt.1)
      obtain ⟨v, hv⟩ := some_at (l := xs) (i := p.2) (by rw [hx.len]; exact hlt.2)
      have u1 := hx.lo u (mem_at hu)
      have u2 := hx.hi u (mem_at hu)
      have v1 := hx.lo v (mem_at hv)
      have v2 := hx.hi v (mem_at hv)
      have hC' := ((s1.trans s2).trans s4).seq hC
      refine ⟨T, [.ref d, .int z], rfl, .inl (.inl upd_same), rfl, .ref d, [.int z], rfl, .int z, [], rfl, rfl, ?_⟩
      refine ⟨_, rfl, _, rfl, _, rfl, _, rfl, d, _, 0, _, rfl, rfl, .inl (.inl ep), atI_nat (j := 0) rfl, c, _, (p.1 : Int), _, rfl, rfl, hC', atI_nat (j := p.1) (at_map hu), z, u, rfl, rfl, .inr (by omega), ?_⟩
      refine ⟨_, rfl, _, rfl, d, _, 1, _, rfl, rfl, .inl (.inl ep), atI_nat (j := 1) rfl, c, _, (p.2 : Int), _, rfl, rfl, hC', atI_nat (j := p.2) (at_map hv), z * u, v, rfl, rfl, .inr (by omega), ?_⟩
      refine ⟨_, _, rfl, rfl, some (.ref d), some (.int z), ?_, s4⟩
      have et : term xs p z = z * u * v := by
        unfold term
        rw [getD_at hu, getD_at hv]
      rw [sum_next (zip_at (f := term xs) hp hz), et]
      rfl
    · rintro σ H' ⟨y4, y5, rfl, s3⟩
      rw [List.take_of_length_le (by rw [List.length_zipWith]; omega)]
      exact ⟨_, rfl, q H' ((s1.trans s2).trans s3)⟩
end
end Pb
namespace Pb
open PySem PySem.Spec PyProof.Rows L2
section
variable {P : Program} {w : World} {K : PySem.W.Frag} {mg : Str → Option Value} {base : Heap}
/-! ### scaled_response(pure, binary, parts) -/
abbrev sScaled : Stmt := topS 21
theorem scScaled : FnScope ["pure", "binary", "parts"] ["pure", "binary", "parts"] (defScope sScaled) := ⟨rfl, rfl, rfl, by decide +kernel, rfl, by decide +kernel, by decide +kernel⟩
def spScaled (K : PySem.W.Frag) : Sp := fun vs H Q _ => ∃ (a b c : Addr) (ps bs xs : List Int), vs = [.ref a, .ref b, .ref c] ∧ SqL K H a (ps.map V.int) ∧ SqL K H b (bs.map V.int) ∧ SqL K H c (xs.map V.int) ∧ given ps bs = true ∧ Parts ps.length xs ∧
  ∀ (H' : Hp), Same H H' → Q (.int (scaled ps bs xs)) H'
theorem ok_scaled {f : Addr} {fd : FuncData} (F : Fun K "scaled_response" "scaled_response" sScaled f fd) (A : Has P w K mg base 1 "alone" ["pure", "parts"] (spAlone K))
    (T : Has P w K mg base 3 "together" ["pure", "binary", "parts"] (spTogether K)) (ms : mg "sum" = none) : FnOk P w K mg base CX0 4 f fd ["pure", "binary", "parts"] (spScaled K) := by
  refine F.ok scScaled (fun vs H Q E h => ?_) (fun cdv A1 outer s H vs Q E hr h => ?_)
  · obtain ⟨a, b, c, ps, bs, xs, rfl, _⟩ := h
    rfl
  · obtain ⟨a, b, c, ps, bs, xs, rfl, hA, hB, hC, g, hx, q⟩ := h
    refine ⟨_, pss_one (ps_ret (pe_op op_add (pe_op op_mul (pe_callB (cr_sum rfl) (by rfl) ms (by decide +kernel) (pa_cons (pv 2) pa_nil)) (pe_has A hr (by decide) (by rfl) (pa_cons (pv 0) (pa_cons (pv 2) pa_nil))))
      (pe_has T hr (by decide) (by rfl) (pa_cons (pv 0) (pa_cons (pv 1) (pa_cons (pv 2) pa_nil)))))), ?_⟩
    obtain ⟨h1, h4, hb, hp, _⟩ := given_iff.mp g
    have e1 := hx.pos
    have e2 := hx.sum_hi h4
    refine ⟨_, rfl, c, xs, rfl, hC, _, rfl, _, rfl, a, c, ps, xs, rfl, hA, hC, by omega, hx.len, hp, fun H1 s1 => ⟨_, _, rfl, rfl, .inl (by omega), ?_⟩⟩
    exact ⟨_, rfl, _, rfl, _, rfl, a, b, c, ps, bs, xs, rfl, s1.seq hA, s1.seq hB, s1.seq hC, g, hx, fun H2 s2 => ⟨_, _, rfl, rfl, q H2 (s1.trans s2)⟩⟩
end
end Pb
namespace Pb
open PySem PySem.Spec PyProof.Rows L2
section
variable {P : Program} {w : World} {K : PySem.W.Frag} {mg : Str → Option Value} {base : Heap}
/-! ### predicted(pure, binary, parts) -/
abbrev sPredicted : Stmt := topS 22
theorem scPredicted : FnScope ["pure", "binary", "parts"] ["pure", "binary", "parts"] (defScope sPredicted) := ⟨rfl, rfl, rfl, by decide +kernel, rfl, by decide +kernel, by decide +kernel⟩
def spPredicted (K : PySem.W.Frag) : Sp := fun vs H Q _ => ∃ (a b c : Addr) (ps bs xs : List Int), vs = [.ref a, .ref b, .ref c] ∧ SqL K H a (ps.map V.int) ∧ SqL K H b (bs.map V.int) ∧ SqL K H c (xs.map V.int) ∧ given ps bs = true ∧ Parts ps.length xs ∧
  ∀ (H' : Hp) (t : Addr), Same H H' → H t = none → H' t = some (.tup [.int (predicted ps bs xs).num, .int ((predicted ps bs xs).den : Nat)]) → Q (.ref t) H'
theorem ok_predicted {f : Addr} {fd : FuncData} (F : Fun K "predicted" "predicted" sPredicted f fd) (S : Has P w K mg base 4 "scaled_response" ["pure", "binary", "parts"] (spScaled K))
    (R : Has P w K mg base 2 "rational" ["numerator", "denominator"] spRational) (ms : mg "sum" = none) : FnOk P w K mg base CX0 5 f fd ["pure", "binary", "parts"] (spPredicted K) := by
  refine F.ok scPredicted (fun vs H Q E h => ?_) (fun cdv A1 outer s H vs Q E hr h => ?_)
  · obtain ⟨a, b, c, ps, bs, xs, rfl, _⟩ := h
    rfl
  · obtain ⟨a, b, c, ps, bs, xs, rfl, hA, hB, hC, g, hx, q⟩ := h
    refine ⟨_, pss_one (ps_ret (pe_has R hr (by decide) (by rfl) (pa_cons (pe_has S hr (by decide) (by rfl) (pa_cons (pv 0) (pa_cons (pv 1) (pa_cons (pv 2) pa_nil))))
      (pa_cons (pe_op op_mul (pe_callB (cr_sum rfl) (by rfl) ms (by decide +kernel) (pa_cons (pv 2) pa_nil)) (pe_callB (cr_sum rfl) (by rfl) ms (by decide +kernel) (pa_cons (pv 2) pa_nil))) pa_nil)))), ?_⟩
    obtain ⟨h1, h4, hb, hp, _⟩ := given_iff.mp g
    have e1 := hx.pos
    have e2 := hx.sum_hi h4
    have e3 := Int.mul_pos e1 e1
    have e4 : xs.sum * xs.sum ≤ 4000000000 * 4000000000 := Int.mul_le_mul e2 e2 (by omega) (by decide)
    refine ⟨_, rfl, _, rfl, _, rfl, a, b, c, ps, bs, xs, rfl, hA, hB, hC, g, hx, fun H1 s1 => ?_⟩
    refine ⟨_, rfl, c, xs, rfl, s1.seq hC, _, rfl, c, xs, rfl, s1.seq hC, _, _, rfl, rfl, .inl (by omega), _, _, rfl, e3, (by omega), fun H2 t s2 nt et => ?_⟩
    exact q H2 t (s1.trans s2) (s1.free nt) et
end
end Pb
namespace Pb
open PySem PySem.Spec PyProof.Rows L2
section
variable {P : Program} {w : World} {K : PySem.W.Frag} {mg : Str → Option Value} {base : Heap}
/-! ### combined(first, second, first_share, second_share) -/
abbrev sCombined : Stmt := topS 23
theorem scCombined : FnScope ["first", "second", "first_share", "second_share", "one", "other", "part", "more"] ["first", "second", "first_share", "second_share"] (defScope sCombined) := ⟨rfl, rfl, rfl, by decide +kernel, rfl, by decide +kernel, by decide +kernel⟩
def spCombined (K : PySem.W.Frag) : Sp := fun vs H Q _ => ∃ (a b : Addr) (xs ys : List Int) (k m : Int), vs = [.ref a, .ref b, .int k, .int m] ∧ SqL K H a (xs.map V.int) ∧ SqL K H b (ys.map V.int) ∧ xs.length ≤ 8 ∧ ys.length = xs.length ∧ (1 ≤ k ∧ k ≤ 99) ∧ (1 ≤ m ∧ m ≤ 99) ∧
  (∀ x ∈ xs, 0 ≤ x ∧ x ≤ 99) ∧ (∀ x ∈ ys, 0 ≤ x ∧ x ≤ 99) ∧ ∀ (H' : Hp) (l : Addr), Same H H' → H l = none → H' l = some (.lst ((combined xs ys k m).map V.int)) → Q (.ref l) H'
theorem ok_combined {f : Addr} {fd : FuncData} (F : Fun K "combined" "combined" sCombined f fd) (mz : mg "zip" = none) (ms : mg "sum" = none) : FnOk P w K mg base CX0 1 f fd ["first", "second", "first_share", "second_share"] (spCombined K) := by
  refine F.ok scCombined (fun vs H Q E h => ?_) (fun cdv A outer s H vs Q E hr h => ?_)
  · obtain ⟨a, b, xs, ys, k, m, rfl, _⟩ := h
    rfl
  · obtain ⟨a, b, xs, ys, k, m, rfl, hA, hB, h8, hl, hk, hm, hx, hy, q⟩ := h
    refine ⟨_, pss_cons (ps_set (i := 4) scCombined.nd rfl (.inr rfl) (pe_op op_mul (pv 2) (pe_callB (cr_sum rfl) (by rfl) ms (by decide +kernel) (pa_cons (pv 1) pa_nil))))
      (pss_cons (ps_set (i := 5) scCombined.nd rfl (.inr rfl) (pe_op op_mul (pv 3) (pe_callB (cr_sum rfl) (by rfl) ms (by decide +kernel) (pa_cons (pv 0) pa_nil))))
      (pss_one (ps_ret (pe_lc (own := [("part", 6), ("more", 7)]) (g := gTup K 2 (gCons (gName 6) (gCons (gName 7) gNil))) (tt := tYes) rfl scCombined.nd
      (pi_zip (by rfl) mz (pa_cons (pv 0) (pa_cons (pv 1) pa_nil)))
      (blkOk_by (own := [("part", 6), ("more", 7)]) (N := ["first", "second", "first_share", "second_share", "one", "other", "part", "more"]) (sc := defScope sCombined) (by decide +kernel))
      (fun _ _ _ _ _ => pg_tup rfl (pgs_cons (pg_name (i := 6) scCombined.nd rfl (Or.inl rfl)) (pgs_cons (pg_name (i := 7) scCombined.nd rfl (Or.inl rfl)) pgs_nil))) (fun _ _ _ _ _ => pts_nil)
      (fun _ _ _ _ _ => pe_op op_add (pe_op op_mul (pv 4) (pv 6)) (pe_op op_mul (pv 5) (pv 7))))))), ?_⟩
    refine ⟨_, rfl, _, rfl, b, ys, rfl, hB, k, ys.sum, rfl, rfl, .inl (by omega), ?_⟩
    refine ⟨_, rfl, _, rfl, a, xs, rfl, hA, m, xs.sum, rfl, rfl, .inl (by omega), ?_⟩
    refine ⟨_, rfl, _, rfl, a, b, _, _, rfl, hA, hB, fun D nD => ?_⟩
    have hn : xs.length = min (xs.map V.int).length (ys.map V.int).length := by
      rw [List.length_map, List.length_map, hl, Nat.min_self]
    refine lc_it (walk_zip (K := K) (a := a) (b := b) hn) (fun i H' => Same H H' ∧ H' D = some (.lst (((combined xs ys k m).take i).map V.int)))
      ⟨same_upd nD, upd_same⟩ (fun i H' _ p => ⟨p.1.seq hA, p.1.seq hB⟩) ?_ ?_
    · rintro i v H' H2 hi ⟨s2, eD⟩ ⟨T, x, y, rfl, nT, rfl, hx1, hy1⟩
      obtain ⟨c, hc, rfl⟩ := map_at hx1
      obtain ⟨r, hr, rfl⟩ := map_at hy1
      have eD' := same_upd (o := .tup [.int c, .int r]) nT _ _ eD
      have cb := hx c (mem_at hc)
      have rb := hy r (mem_at hr)
      refine ⟨T, [.int c, .int r], rfl, .inl (.inl upd_same), rfl, .int c, [.int r], rfl, .int r, [], rfl, rfl, rfl, yes_if ?_⟩
      refine ⟨_, rfl, _, rfl, _, c, rfl, rfl, .inr (by omega), _, rfl, _, rfl, _, r, rfl, rfl, .inr (by omega), _, _, rfl, rfl, _, eD', ?_, ?_, ?_⟩
      · rw [List.length_map, List.length_take]
        exact small6 (by omega)
      · exact same_new (s2.trans (same_upd nT)) nD
      · rw [upd_same]
        have e := take_next (show (combined xs ys k m)[i]? = some (k * ys.sum * c + m * xs.sum * r) from zip_at (f := fun a b => k * ys.sum * a + m * xs.sum * b) hc hr)
        rw [e, List.map_append]
        rfl
    · rintro H' ⟨s2, eD⟩
      rw [List.take_of_length_le (by rw [combined_len hl.symm]; omega)] at eD
      exact q H' D s2 nD eD
end
end Pb
namespace Pb
open PySem PySem.Spec PyProof.Rows L2
section
variable {P : Program} {w : World} {K : PySem.W.Frag} {mg : Str → Option Value} {base : Heap}
/-! ### predict_combination(k, m, pure, binary, first, second) -/
abbrev sAns : Stmt := topS 26
theorem scAns : FnScope ["k", "m", "pure", "binary", "first", "second", "response", "middle"] ["k", "m", "pure", "binary", "first", "second"] (defScope sAns) := ⟨rfl, rfl, rfl, by decide +kernel, rfl, by decide +kernel, by decide +kernel⟩
def spAns (K : PySem.W.Frag) : Sp := fun vs H Q _ => ∃ (a b c d : Addr) (ps bs xs ys : List Int) (k m : Int), vs = [.int k, .int m, .ref a, .ref b, .ref c, .ref d] ∧ SqL K H a (ps.map V.int) ∧ SqL K H b (bs.map V.int) ∧ SqL K H c (xs.map V.int) ∧ SqL K H d (ys.map V.int) ∧
  ps.length ≤ 8 ∧ bs.length ≤ 8 ∧ xs.length ≤ 8 ∧ ys.length ≤ 8 ∧ ∀ (H' : Hp) (l : Addr), H' l = some (.lst ((aCombination k m ps bs xs ys).map V.int)) → Q (.ref l) H'
theorem combined_in {xs ys : List Int} {k m : Int} {n : Nat} (hn : n ≤ 4) (hk : share k = true) (hm : share m = true) (hx : mixture n xs = true) (hy : mixture n ys = true) : Parts n (combined xs ys k m) := by
  obtain ⟨k1, k2⟩ := within_iff.mp hk
  obtain ⟨m1, m2⟩ := within_iff.mp hm
  obtain ⟨lx, _, bx⟩ := mixture_iff.mp hx
  obtain ⟨ly, _, b_y⟩ := mixture_iff.mp hy
  have px := mix_pos hx
  have py := mix_pos hy
  have sx := sum_le (m := 99) fun x hx => (bx x hx).2
  have sy := sum_le (m := 99) fun x hx => (b_y x hx).2
  have hp := Int.mul_pos px py
  refine ⟨(combined_len (lx.trans ly.symm)).trans lx, ?_, fun z hz => ?_, fun z hz => ?_⟩
  · rw [combined_sum (lx.trans ly.symm)]
    exact Int.mul_pos (by omega) hp
  all_goals
    obtain ⟨i, hi⟩ := List.getElem?_of_mem hz
    have hl := (List.getElem?_eq_some_iff.mp hi).1
    rw [combined_len (lx.trans ly.symm)] at hl
    obtain ⟨x, ex⟩ := some_at hl
    obtain ⟨y, ey⟩ := some_at (l := ys) (i := i) (by omega)
    have e := (show (combined xs ys k m)[i]? = some (k * ys.sum * x + m * xs.sum * y) from zip_at (f := fun a b => k * ys.sum * a + m * xs.sum * b) ex ey)
    rw [hi] at e
    rw [Option.some.inj e]
    have x1 := bx x (mem_at ex)
    have y1 := b_y y (mem_at ey)
    have a0 : 0 ≤ k * ys.sum := Int.mul_nonneg (by omega) (by omega)
    have b0 : 0 ≤ m * xs.sum := Int.mul_nonneg (by omega) (by omega)
    have a1 : k * ys.sum ≤ 99 * 396 := Int.mul_le_mul (by omega) (by omega) (by omega) (by decide)
    have b1 : m * xs.sum ≤ 99 * 396 := Int.mul_le_mul (by omega) (by omega) (by omega) (by decide)
    have a2 : k * ys.sum * x ≤ 99 * 396 * 99 := Int.mul_le_mul a1 x1.2 x1.1 (by decide)
    have b2 : m * xs.sum * y ≤ 99 * 396 * 99 := Int.mul_le_mul b1 y1.2 y1.1 (by decide)
    have a3 := Int.mul_nonneg a0 x1.1
    have b3 := Int.mul_nonneg b0 y1.1
    omega
theorem den_small {n : Nat} {ps bs xs : List Int} (hn : n ≤ 4) (hx : mixture n xs = true) : 0 < (predicted ps bs xs).den ∧ (predicted ps bs xs).den ≤ 1000000000000 := by
  have px := mix_pos hx
  obtain ⟨lx, _, bx⟩ := mixture_iff.mp hx
  have sx := sum_le (m := 99) fun x hx => (bx x hx).2
  have h2 : xs.sum * xs.sum ≤ 396 * 396 := Int.mul_le_mul (by omega) (by omega) (by omega) (by decide)
  have h0 := Int.mul_pos px px
  refine ⟨(told_pos ps bs xs px).1, ?_⟩
  unfold predicted
  rw [make_den (by omega)]
  refine Nat.le_trans (Nat.div_le_self _ _) ?_
  omega
theorem ok_ans {f : Addr} {fd : FuncData} (F : Fun K "predict_combination" "predict_combination" sAns f fd) (G : Has P w K mg base 3 "are_given" ["pure", "binary"] (spGiven K)) (S : Has P w K mg base 2 "is_share" ["number"] spShare)
    (M : Has P w K mg base 2 "is_mixture" ["components", "parts"] (spMixture K)) (R : Has P w K mg base 5 "predicted" ["pure", "binary", "parts"] (spPredicted K))
    (C : Has P w K mg base 1 "combined" ["first", "second", "first_share", "second_share"] (spCombined K)) (N : Has P w K mg base 3 "mean" ["one", "other", "one_share", "other_share"] (spMean K))
    (gO : ∃ t, mg "OUTSIDE" = some (.int (-22) t)) (ml : mg "len" = none) (mi : mg "list" = none) : FnOk P w K mg base CX0 6 f fd ["k", "m", "pure", "binary", "first", "second"] (spAns K) := by
  obtain ⟨t1, gO⟩ := gO
  refine F.ok scAns (fun vs H Q E h => ?_) (fun cdv A outer s H vs Q E hr h => ?_)
  · obtain ⟨a, b, c, d, ps, bs, xs, ys, k, m, rfl, _⟩ := h
    rfl
  · obtain ⟨a, b, c, d, ps, bs, xs, ys, k, m, rfl, hA, hB, hC, hD, lA, lB, lC, lD, q⟩ := h
    refine ⟨_, pss_cons (ps_if (PW.pt (pw_or (pt_not (pt_val (pe_has G hr (by decide) (by rfl) (pa_cons (pv 2) (pa_cons (pv 3) pa_nil)))))
          (pw_or (pt_not (pt_val (pe_has S hr (by decide) (by rfl) (pa_cons (pv 0) pa_nil)))) (pw_or1 (pt_not (pt_val (pe_has S hr (by decide) (by rfl) (pa_cons (pv 1) pa_nil))))))))
        (pss_one (ps_ret (pe_lst (pa_cons (pe_glob (v := .int (-22)) (by rfl) gO ⟨_, rfl⟩) pa_nil)))) pss_nil)
      (pss_cons (ps_if (PW.pt (pw_or (pt_not (pt_val (pe_has M hr (by decide) (by rfl) (pa_cons (pe_callB call_len_seq (by rfl) ml PySem.boot_len (pa_cons (pv 2) pa_nil)) (pa_cons (pv 4) pa_nil)))))
          (pw_or1 (pt_not (pt_val (pe_has M hr (by decide) (by rfl) (pa_cons (pe_callB call_len_seq (by rfl) ml PySem.boot_len (pa_cons (pv 2) pa_nil)) (pa_cons (pv 5) pa_nil))))))))
        (pss_one (ps_ret (pe_lst (pa_cons (pe_glob (v := .int (-22)) (by rfl) gO ⟨_, rfl⟩) pa_nil)))) pss_nil)
      (pss_cons (ps_set (i := 6) scAns.nd rfl (.inl rfl) (pe_has R hr (by decide) (by rfl) (pa_cons (pv 2) (pa_cons (pv 3) (pa_cons (pe_has C hr (by decide) (by rfl) (pa_cons (pv 4) (pa_cons (pv 5) (pa_cons (pv 0) (pa_cons (pv 1) pa_nil))))) pa_nil)))))
      (pss_cons (ps_set (i := 7) scAns.nd rfl (.inl rfl) (pe_has N hr (by decide) (by rfl) (pa_cons (pe_has R hr (by decide) (by rfl) (pa_cons (pv 2) (pa_cons (pv 3) (pa_cons (pv 4) pa_nil))))
          (pa_cons (pe_has R hr (by decide) (by rfl) (pa_cons (pv 2) (pa_cons (pv 3) (pa_cons (pv 5) pa_nil)))) (pa_cons (pv 0) (pa_cons (pv 1) pa_nil))))))
      (pss_one (ps_ret (pe_op op_cat (pe_op op_cat (pe_lst (pa_cons pe_int pa_nil)) (pe_callTy call_list_of (by rfl) mi (by decide +kernel) (pa_cons (pv 6) pa_nil))) (pe_callTy call_list_of (by rfl) mi (by decide +kernel) (pa_cons (pv 7) pa_nil)))))))), ?_⟩
    -- what is outside the limits
    have no : ∀ H', (given ps bs && share k && share m && (mixture ps.length xs && mixture ps.length ys)) = false → (1 ≤ sizeLine ∧ ∀ l, H' l = none → Q (.ref l) (upd H' l (.lst [.int (-22)]))) := fun H' e => by
      refine ⟨by decide, fun l hl => q _ l ?_⟩
      unfold aCombination
      rw [e, if_neg Bool.false_ne_true]
      exact upd_same
    refine ⟨_, rfl, _, rfl, a, b, ps, bs, rfl, hA, hB, lA, lB, fun H1 s1 => ⟨_, rfl, ?_⟩⟩
    by_cases g : given ps bs = true
    · rw [g] at no ⊢
      refine iteF ⟨_, rfl, k, rfl, _, rfl, ?_⟩
      by_cases hk : share k = true
      · rw [hk] at no ⊢
        refine iteF ⟨_, rfl, m, rfl, _, rfl, ?_⟩
        by_cases hm : share m = true
        · rw [hm] at no ⊢
          refine iteF ⟨_, rfl, a, _, rfl, .inl (s1.seq hA), _, rfl, ps.length, c, xs, ?_, s1.seq hC, lC, fun H2 s2 => ⟨_, rfl, ?_⟩⟩
          · rw [List.length_map]
            rfl
          have s12 := s1.trans s2
          by_cases hx : mixture ps.length xs = true
          · rw [hx] at no ⊢
            refine iteF ⟨_, rfl, a, _, rfl, .inl (s12.seq hA), _, rfl, ps.length, d, ys, ?_, s12.seq hD, lD, fun H3 s3 => ⟨_, rfl, ?_⟩⟩
            · rw [List.length_map]
              rfl
            have s13 := s12.trans s3
            by_cases hy : mixture ps.length ys = true
            · rw [hy]
              obtain ⟨h1, h4, hb, _, _⟩ := given_iff.mp g
              obtain ⟨lx, _, bx⟩ := mixture_iff.mp hx
              obtain ⟨ly, _, b_y⟩ := mixture_iff.mp hy
              have kk := within_iff.mp hk
              have mm := within_iff.mp hm
              refine iteF ⟨_, rfl, _, rfl, _, rfl, _, rfl, _, rfl, _, rfl, c, d, xs, ys, k, m, rfl, s13.seq hC, s13.seq hD, lC, ly.trans lx.symm, kk, mm, bx, b_y, fun H4 o s4 no4 eo => ?_⟩
              have s14 := s13.trans s4
              refine ⟨a, b, o, ps, bs, _, rfl, s14.seq hA, s14.seq hB, .inl (.inl eo), g, combined_in h4 hk hm hx hy, fun H5 t s5 nt et => ?_⟩
              have s15 := s14.trans s5
              refine ⟨_, rfl, _, rfl, _, rfl, a, b, c, ps, bs, xs, rfl, s15.seq hA, s15.seq hB, s15.seq hC, g, parts_of hx, fun H6 u s6 nu eu => ?_⟩
              have s16 := s15.trans s6
              refine ⟨_, rfl, _, rfl, _, rfl, a, b, d, ps, bs, ys, rfl, s16.seq hA, s16.seq hB, s16.seq hD, g, parts_of hy, fun H7 v s7 nv ev => ?_⟩
              refine ⟨_, rfl, _, rfl, u, v, _, _, k, m, rfl, .inl (.inl (s7 _ _ eu)), .inl (.inl ev), kk, mm, den_small h4 hx, den_small h4 hy, fun H8 z s8 nz ez => ?_⟩
              have et8 := s8 _ _ (s7 _ _ (s6 _ _ et))
              refine ⟨(by show 1 ≤ sizeLine; decide), fun l1 n1 => ⟨_, rfl, t, _, rfl, .inr (.inl (.inl (same_upd n1 _ _ et8))), fun l2 n2 => ?_⟩⟩
              refine ⟨l1, l2, [.int 0], _, rfl, rfl, same_upd n2 _ _ upd_same, upd_same, (by show 1 + 2 ≤ sizeLine; decide), fun l3 n3 => ?_⟩
              refine ⟨_, rfl, z, _, rfl, .inr (.inl (.inl (same_upd n3 _ _ (same_upd n2 _ _ (same_upd n1 _ _ ez))))), fun l4 n4 => ?_⟩
              refine ⟨l3, l4, _, _, rfl, rfl, same_upd n4 _ _ upd_same, upd_same, (by show 3 + 2 ≤ sizeLine; decide), fun r nr => q _ r ?_⟩
              unfold aCombination
              rw [g, hk, hm, hx, hy, if_pos (by rfl)]
              exact upd_same
            · rw [Bool.eq_false_iff.mpr hy] at no ⊢
              exact iteT (no H3 rfl)
          · rw [Bool.eq_false_iff.mpr hx] at no ⊢
            exact iteT (iteT (no H2 (by rw [Bool.false_and, Bool.and_false])))
        · rw [Bool.eq_false_iff.mpr hm] at no ⊢
          exact iteT (no H1 (by rw [Bool.and_false, Bool.false_and]))
      · rw [Bool.eq_false_iff.mpr hk] at no ⊢
        exact iteT (iteT (no H1 (by rw [Bool.and_false, Bool.false_and, Bool.false_and])))
    · rw [Bool.eq_false_iff.mpr g] at no ⊢
      exact iteT (iteT (no H1 (by rw [Bool.false_and, Bool.false_and, Bool.false_and])))
end
end Pb
namespace Pb
open PySem PySem.Spec PyProof.Rows L2
/-- what the top has written: every def keeps its promise -/
theorem all_mk {P : Program} {w : World} {K : PySem.W.Frag} {h : Heap} {mg : Str → Option Value} {fa f1 f2 f3 f4 f5 f6 f7 f8 f9 f10 f11 f12 f13 f14 f15 f16 f17 f18 : Addr} (X : K.In h) (G : h.Ns mainGlobals mg) (hfa : mg "predict_combination" = some (.ref fa))
    {od1 an1 od2 an2 od3 an3 od4 an4 od5 an5 od6 an6 od7 an7 od8 an8 od9 an9 od10 an10 od11 an11 od12 an12 od13 an13 od14 an14 od15 an15 od16 an16 od17 an17 od18 an18 : Option Addr} {sl1 sl2 sl3 sl4 sl5 sl6 sl7 sl8 sl9 sl10 sl11 sl12 sl13 sl14 sl15 sl16 sl17 sl18 : Array (Option Value)} {oc1 kV1 dc1 pm1 cd1 ct1 oc2 kV2 dc2 pm2 cd2 ct2 oc3 kV3 dc3 pm3 cd3 ct3 oc4 kV4 dc4 pm4 cd4 ct4 oc5 kV5 dc5 pm5 cd5 ct5 oc6 kV6 dc6 pm6 cd6 ct6 oc7 kV7 dc7 pm7 cd7 ct7 oc8 kV8 dc8 pm8 cd8 ct8 oc9 kV9 dc9 pm9 cd9 ct9 oc10 kV10 dc10 pm10 cd10 ct10 oc11 kV11 dc11 pm11 cd11 ct11 oc12 kV12 dc12 pm12 cd12 ct12 oc13 kV13 dc13 pm13 cd13 ct13 oc14 kV14 dc14 pm14 cd14 ct14 oc15 kV15 dc15 pm15 cd15 ct15 oc16 kV16 dc16 pm16 cd16 ct16 oc17 kV17 dc17 pm17 cd17 ct17 oc18 kV18 dc18 pm18 cd18 ct18 : Value} {tkMOST_COMPONENTS tkGREATEST_RESPONSE tkMOST_OF_ONE tkGREATEST_SHARE tkOUTSIDE : Tok}
    (a1 : PySem.W.nsIn K mainGlobals "is_within" = some (some (.ref f1)))
    (l1 : K.lookup f1 = some ⟨oc1, od1, .func (PySem.W.fnOf "is_within" "is_within" (defArgs sWithin) (defBody sWithin) (defScope sWithin) .none kV1 dc1 pm1 an1 cd1 ct1), sl1⟩)
    (c1 : PySem.W.codeIn K cd1 "is_within" = true)
    (k1 : PySem.W.keepIn K (.ref f1) = true)
    (a2 : PySem.W.nsIn K mainGlobals "are_responses" = some (some (.ref f2)))
    (l2 : K.lookup f2 = some ⟨oc2, od2, .func (PySem.W.fnOf "are_responses" "are_responses" (defArgs sResponses) (defBody sResponses) (defScope sResponses) .none kV2 dc2 pm2 an2 cd2 ct2), sl2⟩)
    (c2 : PySem.W.codeIn K cd2 "are_responses" = true)
    (k2 : PySem.W.keepIn K (.ref f2) = true)
    (a3 : PySem.W.nsIn K mainGlobals "pair_count" = some (some (.ref f3)))
    (l3 : K.lookup f3 = some ⟨oc3, od3, .func (PySem.W.fnOf "pair_count" "pair_count" (defArgs sPairCount) (defBody sPairCount) (defScope sPairCount) .none kV3 dc3 pm3 an3 cd3 ct3), sl3⟩)
    (c3 : PySem.W.codeIn K cd3 "pair_count" = true)
    (k3 : PySem.W.keepIn K (.ref f3) = true)
    (a4 : PySem.W.nsIn K mainGlobals "are_given" = some (some (.ref f4)))
    (l4 : K.lookup f4 = some ⟨oc4, od4, .func (PySem.W.fnOf "are_given" "are_given" (defArgs sGiven) (defBody sGiven) (defScope sGiven) .none kV4 dc4 pm4 an4 cd4 ct4), sl4⟩)
    (c4 : PySem.W.codeIn K cd4 "are_given" = true)
    (k4 : PySem.W.keepIn K (.ref f4) = true)
    (a5 : PySem.W.nsIn K mainGlobals "is_mixture" = some (some (.ref f5)))
    (l5 : K.lookup f5 = some ⟨oc5, od5, .func (PySem.W.fnOf "is_mixture" "is_mixture" (defArgs sMixture) (defBody sMixture) (defScope sMixture) .none kV5 dc5 pm5 an5 cd5 ct5), sl5⟩)
    (c5 : PySem.W.codeIn K cd5 "is_mixture" = true)
    (k5 : PySem.W.keepIn K (.ref f5) = true)
    (a6 : PySem.W.nsIn K mainGlobals "is_share" = some (some (.ref f6)))
    (l6 : K.lookup f6 = some ⟨oc6, od6, .func (PySem.W.fnOf "is_share" "is_share" (defArgs sShare) (defBody sShare) (defScope sShare) .none kV6 dc6 pm6 an6 cd6 ct6), sl6⟩)
    (c6 : PySem.W.codeIn K cd6 "is_share" = true)
    (k6 : PySem.W.keepIn K (.ref f6) = true)
    (a7 : PySem.W.nsIn K mainGlobals "common_divisor" = some (some (.ref f7)))
    (l7 : K.lookup f7 = some ⟨oc7, od7, .func (PySem.W.fnOf "common_divisor" "common_divisor" (defArgs sDivisor) (defBody sDivisor) (defScope sDivisor) .none kV7 dc7 pm7 an7 cd7 ct7), sl7⟩)
    (c7 : PySem.W.codeIn K cd7 "common_divisor" = true)
    (k7 : PySem.W.keepIn K (.ref f7) = true)
    (a8 : PySem.W.nsIn K mainGlobals "rational" = some (some (.ref f8)))
    (l8 : K.lookup f8 = some ⟨oc8, od8, .func (PySem.W.fnOf "rational" "rational" (defArgs sRational) (defBody sRational) (defScope sRational) .none kV8 dc8 pm8 an8 cd8 ct8), sl8⟩)
    (c8 : PySem.W.codeIn K cd8 "rational" = true)
    (k8 : PySem.W.keepIn K (.ref f8) = true)
    (a9 : PySem.W.nsIn K mainGlobals "mean" = some (some (.ref f9)))
    (l9 : K.lookup f9 = some ⟨oc9, od9, .func (PySem.W.fnOf "mean" "mean" (defArgs sMean) (defBody sMean) (defScope sMean) .none kV9 dc9 pm9 an9 cd9 ct9), sl9⟩)
    (c9 : PySem.W.codeIn K cd9 "mean" = true)
    (k9 : PySem.W.keepIn K (.ref f9) = true)
    (a10 : PySem.W.nsIn K mainGlobals "pairs" = some (some (.ref f10)))
    (l10 : K.lookup f10 = some ⟨oc10, od10, .func (PySem.W.fnOf "pairs" "pairs" (defArgs sPairs) (defBody sPairs) (defScope sPairs) .none kV10 dc10 pm10 an10 cd10 ct10), sl10⟩)
    (c10 : PySem.W.codeIn K cd10 "pairs" = true)
    (k10 : PySem.W.keepIn K (.ref f10) = true)
    (a11 : PySem.W.nsIn K mainGlobals "interaction" = some (some (.ref f11)))
    (l11 : K.lookup f11 = some ⟨oc11, od11, .func (PySem.W.fnOf "interaction" "interaction" (defArgs sInteraction) (defBody sInteraction) (defScope sInteraction) .none kV11 dc11 pm11 an11 cd11 ct11), sl11⟩)
    (c11 : PySem.W.codeIn K cd11 "interaction" = true)
    (k11 : PySem.W.keepIn K (.ref f11) = true)
    (a12 : PySem.W.nsIn K mainGlobals "all_interactions" = some (some (.ref f12)))
    (l12 : K.lookup f12 = some ⟨oc12, od12, .func (PySem.W.fnOf "all_interactions" "all_interactions" (defArgs sInteractions) (defBody sInteractions) (defScope sInteractions) .none kV12 dc12 pm12 an12 cd12 ct12), sl12⟩)
    (c12 : PySem.W.codeIn K cd12 "all_interactions" = true)
    (k12 : PySem.W.keepIn K (.ref f12) = true)
    (a13 : PySem.W.nsIn K mainGlobals "alone" = some (some (.ref f13)))
    (l13 : K.lookup f13 = some ⟨oc13, od13, .func (PySem.W.fnOf "alone" "alone" (defArgs sAlone) (defBody sAlone) (defScope sAlone) .none kV13 dc13 pm13 an13 cd13 ct13), sl13⟩)
    (c13 : PySem.W.codeIn K cd13 "alone" = true)
    (k13 : PySem.W.keepIn K (.ref f13) = true)
    (a14 : PySem.W.nsIn K mainGlobals "together" = some (some (.ref f14)))
    (l14 : K.lookup f14 = some ⟨oc14, od14, .func (PySem.W.fnOf "together" "together" (defArgs sTogether) (defBody sTogether) (defScope sTogether) .none kV14 dc14 pm14 an14 cd14 ct14), sl14⟩)
    (c14 : PySem.W.codeIn K cd14 "together" = true)
    (k14 : PySem.W.keepIn K (.ref f14) = true)
    (a15 : PySem.W.nsIn K mainGlobals "scaled_response" = some (some (.ref f15)))
    (l15 : K.lookup f15 = some ⟨oc15, od15, .func (PySem.W.fnOf "scaled_response" "scaled_response" (defArgs sScaled) (defBody sScaled) (defScope sScaled) .none kV15 dc15 pm15 an15 cd15 ct15), sl15⟩)
    (c15 : PySem.W.codeIn K cd15 "scaled_response" = true)
    (k15 : PySem.W.keepIn K (.ref f15) = true)
    (a16 : PySem.W.nsIn K mainGlobals "predicted" = some (some (.ref f16)))
    (l16 : K.lookup f16 = some ⟨oc16, od16, .func (PySem.W.fnOf "predicted" "predicted" (defArgs sPredicted) (defBody sPredicted) (defScope sPredicted) .none kV16 dc16 pm16 an16 cd16 ct16), sl16⟩)
    (c16 : PySem.W.codeIn K cd16 "predicted" = true)
    (k16 : PySem.W.keepIn K (.ref f16) = true)
    (a17 : PySem.W.nsIn K mainGlobals "combined" = some (some (.ref f17)))
    (l17 : K.lookup f17 = some ⟨oc17, od17, .func (PySem.W.fnOf "combined" "combined" (defArgs sCombined) (defBody sCombined) (defScope sCombined) .none kV17 dc17 pm17 an17 cd17 ct17), sl17⟩)
    (c17 : PySem.W.codeIn K cd17 "combined" = true)
    (k17 : PySem.W.keepIn K (.ref f17) = true)
    (a18 : PySem.W.nsIn K mainGlobals "predict_combination" = some (some (.ref f18)))
    (l18 : K.lookup f18 = some ⟨oc18, od18, .func (PySem.W.fnOf "predict_combination" "predict_combination" (defArgs sAns) (defBody sAns) (defScope sAns) .none kV18 dc18 pm18 an18 cd18 ct18), sl18⟩)
    (c18 : PySem.W.codeIn K cd18 "predict_combination" = true)
    (k18 : PySem.W.keepIn K (.ref f18) = true)
    (gMOST_COMPONENTS : PySem.W.nsIn K mainGlobals "MOST_COMPONENTS" = some (some (.int (4) tkMOST_COMPONENTS)))
    (gGREATEST_RESPONSE : PySem.W.nsIn K mainGlobals "GREATEST_RESPONSE" = some (some (.int (999) tkGREATEST_RESPONSE)))
    (gMOST_OF_ONE : PySem.W.nsIn K mainGlobals "MOST_OF_ONE" = some (some (.int (99) tkMOST_OF_ONE)))
    (gGREATEST_SHARE : PySem.W.nsIn K mainGlobals "GREATEST_SHARE" = some (some (.int (99) tkGREATEST_SHARE)))
    (gOUTSIDE : PySem.W.nsIn K mainGlobals "OUTSIDE" = some (some (.int (-22) tkOUTSIDE)))
    (zabs : PySem.W.nsIn K mainGlobals "abs" = some none)
    (zall : PySem.W.nsIn K mainGlobals "all" = some none)
    (zlen : PySem.W.nsIn K mainGlobals "len" = some none)
    (zlist : PySem.W.nsIn K mainGlobals "list" = some none)
    (zrange : PySem.W.nsIn K mainGlobals "range" = some none)
    (zsum : PySem.W.nsIn K mainGlobals "sum" = some none)
    (zzip : PySem.W.nsIn K mainGlobals "zip" = some none)
    : ∃ fd : FuncData, (∀ (s : Shared) (us : List Value), us.length = (["k", "m", "pure", "binary", "first", "second"] : List Str).length → BindsTo s fd ⟨us, []⟩ ((["k", "m", "pure", "binary", "first", "second"] : List Str).zip us)) ∧ ∀ base : Heap, K.In base → base.Ns mainGlobals mg → FnOk P w K mg base CX0 6 fa fd ["k", "m", "pure", "binary", "first", "second"] (spAns K) := by
  have e := hfa.symm.trans (PySem.W.mg_of X G a18)
  cases e
  have F1 := fun_mk (st := sWithin) l1 c1 k1
  have b1 := F1.binds (ps := ["number", "least", "most"]) fun _ _ _ _ _ _ us hl => match us, hl with | [_, _, _], _ => rfl
  have F2 := fun_mk (st := sResponses) l2 c2 k2
  have b2 := F2.binds (ps := ["numbers"]) fun _ _ _ _ _ _ us hl => match us, hl with | [_], _ => rfl
  have F3 := fun_mk (st := sPairCount) l3 c3 k3
  have b3 := F3.binds (ps := ["components"]) fun _ _ _ _ _ _ us hl => match us, hl with | [_], _ => rfl
  have F4 := fun_mk (st := sGiven) l4 c4 k4
  have b4 := F4.binds (ps := ["pure", "binary"]) fun _ _ _ _ _ _ us hl => match us, hl with | [_, _], _ => rfl
  have F5 := fun_mk (st := sMixture) l5 c5 k5
  have b5 := F5.binds (ps := ["components", "parts"]) fun _ _ _ _ _ _ us hl => match us, hl with | [_, _], _ => rfl
  have F6 := fun_mk (st := sShare) l6 c6 k6
  have b6 := F6.binds (ps := ["number"]) fun _ _ _ _ _ _ us hl => match us, hl with | [_], _ => rfl
  have F7 := fun_mk (st := sDivisor) l7 c7 k7
  have b7 := F7.binds (ps := ["one", "other"]) fun _ _ _ _ _ _ us hl => match us, hl with | [_, _], _ => rfl
  have F8 := fun_mk (st := sRational) l8 c8 k8
  have b8 := F8.binds (ps := ["numerator", "denominator"]) fun _ _ _ _ _ _ us hl => match us, hl with | [_, _], _ => rfl
  have F9 := fun_mk (st := sMean) l9 c9 k9
  have b9 := F9.binds (ps := ["one", "other", "one_share", "other_share"]) fun _ _ _ _ _ _ us hl => match us, hl with | [_, _, _, _], _ => rfl
  have F10 := fun_mk (st := sPairs) l10 c10 k10
  have b10 := F10.binds (ps := ["components"]) fun _ _ _ _ _ _ us hl => match us, hl with | [_], _ => rfl
  have F11 := fun_mk (st := sInteraction) l11 c11 k11
  have b11 := F11.binds (ps := ["pure", "pair", "response"]) fun _ _ _ _ _ _ us hl => match us, hl with | [_, _, _], _ => rfl
  have F12 := fun_mk (st := sInteractions) l12 c12 k12
  have b12 := F12.binds (ps := ["pure", "binary"]) fun _ _ _ _ _ _ us hl => match us, hl with | [_, _], _ => rfl
  have F13 := fun_mk (st := sAlone) l13 c13 k13
  have b13 := F13.binds (ps := ["pure", "parts"]) fun _ _ _ _ _ _ us hl => match us, hl with | [_, _], _ => rfl
  have F14 := fun_mk (st := sTogether) l14 c14 k14
  have b14 := F14.binds (ps := ["pure", "binary", "parts"]) fun _ _ _ _ _ _ us hl => match us, hl with | [_, _, _], _ => rfl
  have F15 := fun_mk (st := sScaled) l15 c15 k15
  have b15 := F15.binds (ps := ["pure", "binary", "parts"]) fun _ _ _ _ _ _ us hl => match us, hl with | [_, _, _], _ => rfl
  have F16 := fun_mk (st := sPredicted) l16 c16 k16
  have b16 := F16.binds (ps := ["pure", "binary", "parts"]) fun _ _ _ _ _ _ us hl => match us, hl with | [_, _, _], _ => rfl
  have F17 := fun_mk (st := sCombined) l17 c17 k17
  have b17 := F17.binds (ps := ["first", "second", "first_share", "second_share"]) fun _ _ _ _ _ _ us hl => match us, hl with | [_, _, _, _], _ => rfl
  have F18 := fun_mk (st := sAns) l18 c18 k18
  have GMOST_COMPONENTS : ∃ t, mg "MOST_COMPONENTS" = some (.int (4) t) := ⟨_, PySem.W.mg_of X G gMOST_COMPONENTS⟩
  have GGREATEST_RESPONSE : ∃ t, mg "GREATEST_RESPONSE" = some (.int (999) t) := ⟨_, PySem.W.mg_of X G gGREATEST_RESPONSE⟩
  have GMOST_OF_ONE : ∃ t, mg "MOST_OF_ONE" = some (.int (99) t) := ⟨_, PySem.W.mg_of X G gMOST_OF_ONE⟩
  have GGREATEST_SHARE : ∃ t, mg "GREATEST_SHARE" = some (.int (99) t) := ⟨_, PySem.W.mg_of X G gGREATEST_SHARE⟩
  have GOUTSIDE : ∃ t, mg "OUTSIDE" = some (.int (-22) t) := ⟨_, PySem.W.mg_of X G gOUTSIDE⟩
  have Zabs := PySem.W.mg_none_of X G zabs
  have Zall := PySem.W.mg_none_of X G zall
  have Zlen := PySem.W.mg_none_of X G zlen
  have Zlist := PySem.W.mg_none_of X G zlist
  have Zrange := PySem.W.mg_none_of X G zrange
  have Zsum := PySem.W.mg_none_of X G zsum
  have Zzip := PySem.W.mg_none_of X G zzip
  refine ⟨PySem.W.fnOf "predict_combination" "predict_combination" (defArgs sAns) (defBody sAns) (defScope sAns) .none kV18 dc18 pm18 an18 cd18 ct18, fun s us hu => match us, hu with | [_, _, _, _, _, _], _ => .of_eq rfl, fun base _ _ => ?_⟩
  have H1 : Has P w K mg base 1 "is_within" ["number", "least", "most"] spWithin := ⟨_, _, PySem.W.mg_of X G a1, k1, b1, ok_within F1⟩
  have H2 : Has P w K mg base 2 "are_responses" ["numbers"] (spResponses K) := ⟨_, _, PySem.W.mg_of X G a2, k2, b2, ok_responses F2 H1 GGREATEST_RESPONSE Zall⟩
  have H3 : Has P w K mg base 1 "pair_count" ["components"] spPairCount := ⟨_, _, PySem.W.mg_of X G a3, k3, b3, ok_paircount F3⟩
  have H4 : Has P w K mg base 3 "are_given" ["pure", "binary"] (spGiven K) := ⟨_, _, PySem.W.mg_of X G a4, k4, b4, ok_given F4 H1 H2 H3 GMOST_COMPONENTS Zlen⟩
  have H5 : Has P w K mg base 2 "is_mixture" ["components", "parts"] (spMixture K) := ⟨_, _, PySem.W.mg_of X G a5, k5, b5, ok_mixture F5 H1 GMOST_OF_ONE Zlen Zsum Zall⟩
  have H6 : Has P w K mg base 2 "is_share" ["number"] spShare := ⟨_, _, PySem.W.mg_of X G a6, k6, b6, ok_share F6 H1 GGREATEST_SHARE⟩
  have H7 : Has P w K mg base 1 "common_divisor" ["one", "other"] spDivisor := ⟨_, _, PySem.W.mg_of X G a7, k7, b7, ok_divisor F7⟩
  have H8 : Has P w K mg base 2 "rational" ["numerator", "denominator"] spRational := ⟨_, _, PySem.W.mg_of X G a8, k8, b8, ok_rational F8 H7 Zabs⟩
  have H9 : Has P w K mg base 3 "mean" ["one", "other", "one_share", "other_share"] (spMean K) := ⟨_, _, PySem.W.mg_of X G a9, k9, b9, ok_mean F9 H8⟩
  have H10 : Has P w K mg base 1 "pairs" ["components"] spPairs := ⟨_, _, PySem.W.mg_of X G a10, k10, b10, ok_pairs F10 Zrange⟩
  have H11 : Has P w K mg base 1 "interaction" ["pure", "pair", "response"] (spInteraction K) := ⟨_, _, PySem.W.mg_of X G a11, k11, b11, ok_interaction F11⟩
  have H12 : Has P w K mg base 2 "all_interactions" ["pure", "binary"] (spInteractions K) := ⟨_, _, PySem.W.mg_of X G a12, k12, b12, ok_interactions F12 H10 H11 Zlen Zzip⟩
  have H13 : Has P w K mg base 1 "alone" ["pure", "parts"] (spAlone K) := ⟨_, _, PySem.W.mg_of X G a13, k13, b13, ok_alone F13 Zzip Zsum⟩
  have H14 : Has P w K mg base 3 "together" ["pure", "binary", "parts"] (spTogether K) := ⟨_, _, PySem.W.mg_of X G a14, k14, b14, ok_together F14 H10 H12 Zlen Zzip⟩
  have H15 : Has P w K mg base 4 "scaled_response" ["pure", "binary", "parts"] (spScaled K) := ⟨_, _, PySem.W.mg_of X G a15, k15, b15, ok_scaled F15 H13 H14 Zsum⟩
  have H16 : Has P w K mg base 5 "predicted" ["pure", "binary", "parts"] (spPredicted K) := ⟨_, _, PySem.W.mg_of X G a16, k16, b16, ok_predicted F16 H15 H8 Zsum⟩
  have H17 : Has P w K mg base 1 "combined" ["first", "second", "first_share", "second_share"] (spCombined K) := ⟨_, _, PySem.W.mg_of X G a17, k17, b17, ok_combined F17 Zzip Zsum⟩
  exact ok_ans F18 H4 H6 H5 H16 H17 H9 GOUTSIDE Zlen Zlist
end Pb
open PySem PySem.W PyProof.Rows
set_option maxRecDepth 100000 in
set_option maxHeartbeats 8000000 in
theorem PySem.Challenge.cw_pairblend_s04_predict_combination_holds : PySem.Challenge.rw_pairblend_s04_predict_combination.Holds := by
  w_on; k_headS; (case hw => exact ⟨[.int 0, .int 0, .list [], .list [], .list [], .list []], by decide +kernel, by decide +kernel⟩)
  k_fillS
  refine L2.walk_specK (r := PySem.Challenge.rw_pairblend_s04_predict_combination) (k := 6) (CX := L2.CX0) (ps := ["k", "m", "pure", "binary", "first", "second"]) (sp := Pb.spAns) (by decide +kernel) rfl rfl ⟨rfl, by decide, by decide⟩ (fun w h Y => PySem.W.kIn_of Y) ?F ?S (fun _ _ _ _ z => z)
  case F =>
    intro w mg fa h Y KX G hmg
    refine' Pb.all_mk KX G hmg ?a1 ?l1 ?c1 ?k1 ?a2 ?l2 ?c2 ?k2 ?a3 ?l3 ?c3 ?k3 ?a4 ?l4 ?c4 ?k4 ?a5 ?l5 ?c5 ?k5 ?a6 ?l6 ?c6 ?k6 ?a7 ?l7 ?c7 ?k7 ?a8 ?l8 ?c8 ?k8 ?a9 ?l9 ?c9 ?k9 ?a10 ?l10 ?c10 ?k10 ?a11 ?l11 ?c11 ?k11 ?a12 ?l12 ?c12 ?k12 ?a13 ?l13 ?c13 ?k13 ?a14 ?l14 ?c14 ?k14 ?a15 ?l15 ?c15 ?k15 ?a16 ?l16 ?c16 ?k16 ?a17 ?l17 ?c17 ?k17 ?a18 ?l18 ?c18 ?k18 ?gMOST_COMPONENTS ?gGREATEST_RESPONSE ?gMOST_OF_ONE ?gGREATEST_SHARE ?gOUTSIDE ?zabs ?zall ?zlen ?zlist ?zrange ?zsum ?zzip
    (case a1 => k_is)
    (case l1 => k_is)
    (case c1 => k_is)
    (case k1 => k_is)
    (case a2 => k_is)
    (case l2 => k_is)
    (case c2 => k_is)
    (case k2 => k_is)
    (case a3 => k_is)
    (case l3 => k_is)
    (case c3 => k_is)
    (case k3 => k_is)
    (case a4 => k_is)
    (case l4 => k_is)
    (case c4 => k_is)
    (case k4 => k_is)
    (case a5 => k_is)
    (case l5 => k_is)
    (case c5 => k_is)
    (case k5 => k_is)
    (case a6 => k_is)
    (case l6 => k_is)
    (case c6 => k_is)
    (case k6 => k_is)
    (case a7 => k_is)
    (case l7 => k_is)
    (case c7 => k_is)
    (case k7 => k_is)
    (case a8 => k_is)
    (case l8 => k_is)
    (case c8 => k_is)
    (case k8 => k_is)
    (case a9 => k_is)
    (case l9 => k_is)
    (case c9 => k_is)
    (case k9 => k_is)
    (case a10 => k_is)
    (case l10 => k_is)
    (case c10 => k_is)
    (case k10 => k_is)
    (case a11 => k_is)
    (case l11 => k_is)
    (case c11 => k_is)
    (case k11 => k_is)
    (case a12 => k_is)
    (case l12 => k_is)
    (case c12 => k_is)
    (case k12 => k_is)
    (case a13 => k_is)
    (case l13 => k_is)
    (case c13 => k_is)
    (case k13 => k_is)
    (case a14 => k_is)
    (case l14 => k_is)
    (case c14 => k_is)
    (case k14 => k_is)
    (case a15 => k_is)
    (case l15 => k_is)
    (case c15 => k_is)
    (case k15 => k_is)
    (case a16 => k_is)
    (case l16 => k_is)
    (case c16 => k_is)
    (case k16 => k_is)
    (case a17 => k_is)
    (case l17 => k_is)
    (case c17 => k_is)
    (case k17 => k_is)
    (case a18 => k_is)
    (case l18 => k_is)
    (case c18 => k_is)
    (case k18 => k_is)
    (case gMOST_COMPONENTS => k_is)
    (case gGREATEST_RESPONSE => k_is)
    (case gMOST_OF_ONE => k_is)
    (case gGREATEST_SHARE => k_is)
    (case gOUTSIDE => k_is)
    (case zabs => k_is)
    (case zall => k_is)
    (case zlen => k_is)
    (case zlist => k_is)
    (case zrange => k_is)
    (case zsum => k_is)
    (case zzip => k_is)
  case S =>
    intro K H xs a hO hwi hask hx
    obtain ⟨k, m, ps, bs, xs, ys, u⟩ := a
    cases hx with
    | cons h0 hx =>
      cases hx with
      | cons h00 hx =>
        cases hx with
        | cons h1 hx =>
          cases hx with
          | cons h2 hx =>
            cases hx with
            | cons h3 hx =>
              cases hx with
              | cons h4 hx =>
                cases hx
                cases h0
                cases h00
                cases h1 with
                | lst hs1 ha1 =>
                  cases h2 with
                  | lst hs2 ha2 =>
                    cases h3 with
                    | lst hs3 ha3 =>
                      cases h4 with
                      | lst hs4 ha4 =>
                        have e1 := L2.ints_dw ps _ ha1
                        have e2 := L2.ints_dw bs _ ha2
                        have e3 := L2.ints_dw xs _ ha3
                        have e4 := L2.ints_dw ys _ ha4
                        subst e1 e2 e3 e4
                        have q : (Codec.inInt 0 4294967295 k && (Codec.inInt 0 4294967295 m && ((Codec.inLen 0 6 ps && ps.all (Codec.inInt (-2147483648) 2147483647)) && ((Codec.inLen 0 8 bs && bs.all (Codec.inInt (-2147483648) 2147483647)) &&
                          ((Codec.inLen 0 6 xs && xs.all (Codec.inInt 0 4294967295)) && ((Codec.inLen 0 6 ys && ys.all (Codec.inInt 0 4294967295)) && true)))))) = true := hwi
                        simp only [Bool.and_eq_true] at q
                        obtain ⟨q0, q00, q1, q2, q3, q4, _⟩ := q
                        have l1 := (Codec.inNat_iff.mp q1.1).2
                        have l2 := (Codec.inNat_iff.mp q2.1).2
                        have l3 := (Codec.inNat_iff.mp q3.1).2
                        have l4 := (Codec.inNat_iff.mp q4.1).2
                        have p3 : ∀ x ∈ xs, 0 ≤ x := fun x hx => (Codec.inInt_iff.mp (List.all_eq_true.mp q3.2 x hx)).1
                        have p4 : ∀ x ∈ ys, 0 ≤ x := fun x hx => (Codec.inInt_iff.mp (List.all_eq_true.mp q4.2 x hx)).1
                        refine ⟨_, _, _, _, ps, bs, xs, ys, k, m, rfl, hs1, hs2, hs3, hs4, Nat.le_trans l1 (by decide), l2, Nat.le_trans l3 (by decide), Nat.le_trans l4 (by decide), fun H' l e => ?_⟩
                        show L2.Dw K H' (.ref l) (.list ((PyKs608.predict_combination k m ps bs xs ys).map WData.int))
                        rw [Pb.aCombination_is p3 p4]
                        exact .lst (L2.SqL.of e) (L2.dw_ints _)
#print axioms PySem.Challenge.cw_pairblend_s04_predict_combination_holds
