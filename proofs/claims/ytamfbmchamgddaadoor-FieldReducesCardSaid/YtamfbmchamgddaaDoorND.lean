/-
  Products, powers, digits of ten: the reference's times, power, decimal.
-/
import Derived.Test.YtamfbmchamgddaaDoorNC
import Derived.Test.YtamfbmchamgddaaDoorTimesP
namespace Go.Proofs.YtamfbmchamgddaaDoor
set_option linter.unusedVariables false
set_option linter.unusedSimpArgs false
set_option linter.unusedSectionVars false
open Go.RowKit Go.Proofs.YtamfbmchamgddaaDoorW.PrintWords Go.Proofs.YtamfbmchamgddaaDoorW.PrintMore Go.Proofs.YtamfbmchamgddaaDoorW.PrintLast PFieldReduces

theorem word_prod (x y c o : Int) (hx : 0 ≤ x ∧ x < 4294967296) (hy : 0 ≤ y ∧ y < 4294967296) (hc : 0 ≤ c ∧ c < 4294967296) (ho : 0 ≤ o ∧ o < 4294967296) : 0 ≤ x * y ∧ c + x * y + o < 18446744073709551616 := by
  have h1 := Int.mul_nonneg hx.1 hy.1
  have h2 := Int.mul_le_mul (show x ≤ 4294967295 by omega) (show y ≤ 4294967295 by omega) hy.1 (by omega)
  refine ⟨h1, ?_⟩
  generalize x * y = z at *
  omega

theorem times_end (a b out : List Int) (i j : Nat) (c : Int) (k : Nat) (hj : b.length = j) (h3 : i + j < out.length) (h4 : out.length ≤ 1000000) :
    securelinkref4_times.l1 (k + 1) a b out (i : Int) c (j : Int) = securelinkref4_times.l0 k a b (out.set (i + j) (c % 4294967296)) ((i + 1 : Nat) : Int) := by
  have e : wrap64 ((i : Int) + (b.length : Int)) = ((i + j : Nat) : Int) := by rw [w64 _ (by omega)]; omega
  have c1 : ¬ ((j : Int) < (b.length : Int)) := by omega
  have c2 : (0 : Int) ≤ ((i + j : Nat) : Int) := by omega
  have c3 : ((i + j : Nat) : Int) < (out.length : Int) := by omega
  have c4 : wrap64 ((i : Int) + 1) = ((i + 1 : Nat) : Int) := w64 _ (by omega)
  rw [securelinkref4_times.l1, if_neg c1, e, if_pos c2, if_pos c3, c4, Int.toNat_natCast]
theorem times_step (a b out : List Int) (i j : Nat) (c t x y o z : Int) (k : Nat) (hj : j < b.length) (hi : i < a.length) (h3 : i + j < out.length) (h4 : out.length ≤ 1000000) (hx : el a i = x) (hy : el b j = y) (ho : el out (i + j) = o) (hz : x * y = z)
    (u1 : IntKind.u64.wrap x = x) (u2 : IntKind.u64.wrap y = y) (u3 : IntKind.u64.wrap o = o) (u4 : IntKind.u64.wrap z = z) (u5 : IntKind.u64.wrap (c + z) = c + z) (u6 : IntKind.u64.wrap (c + z + o) = t) :
    securelinkref4_times.l1 (k + 1) a b out (i : Int) c (j : Int) = securelinkref4_times.l1 k a b (out.set (i + j) (t % 4294967296)) (i : Int) (t / 4294967296) ((j + 1 : Nat) : Int) := by
  have c1 : (j : Int) < (b.length : Int) := by clear hz hx hy ho u1 u2 u3 u4 u5 u6; omega
  have c2 : (0 : Int) ≤ (i : Int) := by clear hz hx hy ho u1 u2 u3 u4 u5 u6; omega
  have c3 : (i : Int) < (a.length : Int) := by clear hz hx hy ho u1 u2 u3 u4 u5 u6; omega
  have c4 : (0 : Int) ≤ (j : Int) := by clear hz hx hy ho u1 u2 u3 u4 u5 u6; omega
  have c5 : (0 : Int) ≤ ((i + j : Nat) : Int) := by clear hz hx hy ho u1 u2 u3 u4 u5 u6; omega
  have c6 : ((i + j : Nat) : Int) < (out.length : Int) := by clear hz hx hy ho u1 u2 u3 u4 u5 u6; omega
  have c7 : wrap64 ((j : Int) + 1) = ((j + 1 : Nat) : Int) := by clear hz hx hy ho u1 u2 u3 u4 u5 u6; exact w64 _ (by omega)
  have e : wrap64 ((i : Int) + (j : Int)) = ((i + j : Nat) : Int) := (w64 _ (by clear hz hx hy ho u1 u2 u3 u4 u5 u6 c7; omega)).trans (by clear hz hx hy ho u1 u2 u3 u4 u5 u6 c7; omega)
  rw [securelinkref4_times.l1, if_pos c1, if_pos c2, if_pos c3, if_pos c4, e, if_pos c5, if_pos c6, rd_el, rd_el, rd_el, hx, hy, ho, u1, u2, u3, c7, Int.toNat_natCast, hz, u4, u5, u6]
section
variable (a b : List Int) (na nb : Nat) (hna : a.length = na) (hnb : b.length = nb) (ha : DD a) (hb : DD b) (hsz : na + nb ≤ 1000000)
include hna hnb ha hb hsz

set_option maxHeartbeats 200000 in
theorem row_l (i : Nat) (hi : i < na) (V0 : Int) (rest : List Int)
    (hrest : ∀ out : List Int, out.length = na + nb → DD out → vv out = V0 + el a i * vv b * 4294967296 ^ i → (∀ p, i + 1 + nb ≤ p → el out p = 0) → Ev (fun k => securelinkref4_times.l0 k a b out ((i + 1 : Nat) : Int)) rest) :
    ∀ (d j : Nat) (out : List Int) (c : Int), d + j = nb → out.length = na + nb → DD out → 0 ≤ c → c < 4294967296 → vv out + 4294967296 ^ (i + j) * c = V0 + el a i * vv (b.take j) * 4294967296 ^ i → (∀ p, i + nb ≤ p → el out p = 0) →
    Ev (fun k => securelinkref4_times.l1 k a b out (i : Int) c (j : Int)) rest
  | 0, j, out, c, hj, hlen, hd, hc0, hc1, hv, hz => by
    obtain rfl : j = nb := by omega
    rw [List.take_of_length_le (by omega)] at hv
    refine (hrest (out.set (i + j) (c % 4294967296)) (by simpa using hlen) (hd.set _ _ (by omega)) ?_ (fun p hp => ?_)).step fun k => ?_
    · show dL 4294967296 _ = _
      rw [dL_set _ _ _ _ (by omega), show dL 4294967296 out = vv out from rfl, hz _ (by omega), ← hv]
      rw [Int.emod_eq_of_lt hc0 hc1]
      grind
    · rw [set_el _ _ _ _ (by omega), if_neg (by omega)]
      exact hz p (by omega)
    · exact times_end a b out i j c k hnb (by omega) (by omega)
  | d + 1, j, out, c, hj, hlen, hd, hc0, hc1, hv, hz => by
    have hx := ha.el (by omega) i
    have hy := hb.el (by omega) j
    have ho := hd.el (by omega) (i + j)
    obtain ⟨hp0, hp1⟩ := word_prod (el a i) (el b j) c (el out (i + j)) hx hy ⟨hc0, hc1⟩ ho
    obtain ⟨t, et⟩ : ∃ t, t = c + el a i * el b j + el out (i + j) := ⟨_, rfl⟩
    refine (row_l i hi V0 rest hrest d (j + 1) (out.set (i + j) (t % 4294967296)) (t / 4294967296) (by omega) (by simpa using hlen) (hd.set _ _ (by omega)) (by omega) (by omega) ?_ (fun p hp => ?_)).step fun k => ?_
    · show dL 4294967296 _ + _ = _
      rw [dL_set _ _ _ _ (by omega), show dL 4294967296 out = vv out from rfl, vv_take, show i + (j + 1) = i + j + 1 by omega, Int.pow_succ]
      have h1 : t = 4294967296 * (t / 4294967296) + t % 4294967296 := by omega
      generalize t / 4294967296 = q at h1 ⊢
      generalize t % 4294967296 = r at h1 ⊢
      rw [Int.pow_add] at hv ⊢
      generalize (4294967296 : Int) ^ i = P at hv ⊢
      generalize (4294967296 : Int) ^ j = Q at hv ⊢
      subst et
      grind
    · rw [set_el _ _ _ _ (by omega), if_neg (by omega)]
      exact hz p hp
    · have q1 : j < b.length := by clear hv hz hrest hp0 hp1 et; omega
      have q2 : i < a.length := by clear hv hz hrest hp0 hp1 et; omega
      have q3 : i + j < out.length := by clear hv hz hrest hp0 hp1 et; omega
      have q4 : out.length ≤ 1000000 := by clear hv hz hrest hp0 hp1 et; omega
      clear hv hz hrest
      obtain ⟨z, ez⟩ : ∃ z, z = el a i * el b j := ⟨_, rfl⟩
      rw [← ez] at hp0 hp1 et
      exact times_step a b out i j c t _ _ _ z k q1 q2 q3 q4 rfl rfl rfl ez.symm (wu64 _ (by omega)) (wu64 _ (by omega)) (wu64 _ (by omega)) (wu64 _ (by omega)) (wu64 _ (by omega)) ((wu64 _ (by omega)).trans et.symm)

theorem times_l : ∀ (m i : Nat) (out : List Int), m + i = na → out.length = na + nb → DD out → vv out = vv (a.take i) * vv b → (∀ p, i + nb ≤ p → el out p = 0) →
    Ev (fun k => securelinkref4_times.l0 k a b out (i : Int)) (NN (na + nb) (vv a * vv b))
  | 0, i, out, hi, hlen, hd, hv, hz => by
    refine Ev.last fun k => ?_
    simp only [securelinkref4_times.l0]
    rw [if_neg (by omega)]
    congr 1
    rw [List.take_of_length_le (by omega)] at hv
    exact NN_of hlen hd hv
  | m + 1, i, out, hi, hlen, hd, hv, hz => by
    refine (row_l a b na nb hna hnb ha hb hsz i (by omega) (vv out) _ (fun out' hlen' hd' hv' hz' => ?_) nb 0 out 0 (by omega) hlen hd (by omega) (by omega) (by simp [vv, dL]) hz).step fun k => ?_
    · refine times_l m (i + 1) out' (by omega) hlen' hd' ?_ hz'
      rw [hv', hv, vv_take]
      grind
    · simp only [securelinkref4_times.l0]
      rw [if_pos (by omega)]
      rfl
theorem times_f : Ev (fun k => securelinkref4_times.f k a b) (NN (na + nb) (vv a * vv b)) := by
  refine (times_l a b na nb hna hnb ha hb hsz na 0 (List.replicate (na + nb) 0) (by omega) (by simp) (Dig.zeros (by omega) _) (by simp [vv, dL, dL_zeros]) (fun p hp => ?_)).same fun k => ?_
  · simp only [el, List.getD_eq_getElem?_getD]
    rw [List.getElem?_replicate]
    split <;> rfl
  · unfold securelinkref4_times.f
    have e : wrap64 ((a.length : Int) + (b.length : Int)) = ((na + nb : Nat) : Int) := by rw [w64 _ (by omega)]; omega
    rw [e, if_pos (by omega), if_pos (by omega), Int.toNat_natCast]
    rfl
end

end Go.Proofs.YtamfbmchamgddaaDoor
