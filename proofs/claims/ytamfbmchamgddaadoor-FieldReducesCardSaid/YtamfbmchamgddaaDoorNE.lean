/-
  Powers, digits of ten, the primes: power, decimal, Make.
-/
import Derived.Test.YtamfbmchamgddaaDoorND
import Derived.Test.YtamfbmchamgddaaDoorMakeP
import Derived.Test.YtamfbmchamgddaaDoorDecimalP
namespace Go.Proofs.YtamfbmchamgddaaDoor
set_option linter.unusedVariables false
set_option linter.unusedSimpArgs false
set_option linter.unusedSectionVars false
open Go.RowKit Go.Proofs.YtamfbmchamgddaaDoorW.PrintWords Go.Proofs.YtamfbmchamgddaaDoorW.PrintMore Go.Proofs.YtamfbmchamgddaaDoorW.PrintLast PFieldReduces

theorem power255 : securelinkref4_power.f 255 = some (NN 8 57896044618658097711785492504343953926634992332820282019728792003956564819968) := by kernel_rfl
theorem power252 : securelinkref4_power.f 252 = some (NN 8 7237005577332262213973186563042994240829374041602535252466099000494570602496) := by kernel_rfl
theorem power256 : securelinkref4_power.f 256 = some (NN 9 115792089237316195423570985008687907853269984665640564039457584007913129639936) := by kernel_rfl
theorem power224 : securelinkref4_power.f 224 = some (NN 8 26959946667150639794667015087019630673637144422540572481103610249216) := by kernel_rfl
theorem power192 : securelinkref4_power.f 192 = some (NN 7 6277101735386680763835789423207666416102355444464034512896) := by kernel_rfl
theorem power96 : securelinkref4_power.f 96 = some (NN 4 79228162514264337593543950336) := by kernel_rfl

/-- digits of ten -/
def decV (l : List Int) : Int := l.foldl (fun V x => V * 10 + (x - 48)) 0
theorem decV_snoc (l : List Int) (x : Int) : decV (l ++ [x]) = decV l * 10 + (x - 48) := by simp [decV]
theorem decV_range : ∀ (n : Nat) (l : List Int), l.length = n → (∀ x ∈ l, 48 ≤ x ∧ x ≤ 57) → 0 ≤ decV l ∧ decV l < 4294967296 ^ (1 + 2 * n)
  | 0, l, hl, h => by
    obtain rfl := List.eq_nil_of_length_eq_zero hl
    simp [decV]
  | n + 1, l, hl, h => by
    obtain ⟨l', x, rfl⟩ : ∃ l' x, l = l' ++ [x] := ⟨l.dropLast, l.getLast (by intro e; simp [e] at hl), (List.dropLast_concat_getLast _).symm⟩
    have hx := h x (by simp)
    have ih := decV_range n l' (by simpa using hl) (fun y hy => h y (by simp [hy]))
    rw [decV_snoc, show 1 + 2 * (n + 1) = 1 + 2 * n + 2 by omega, Int.pow_add, show (4294967296 : Int) ^ 2 = 18446744073709551616 from rfl]
    generalize (4294967296 : Int) ^ (1 + 2 * n) = P at *
    omega
theorem decimal_l (t : ByteArray) (n : Nat) (hn : t.size = n) (hsz : n ≤ 1000) (hdig : ∀ x ∈ bytesOf t, 48 ≤ x ∧ x ≤ 57) : ∀ (m i : Nat), m + i = n → Ev (fun k => securelinkref4_decimal.l0 k t (NN (1 + 2 * i) (decV ((bytesOf t).take i))) (i : Int)) (NN (1 + 2 * n) (decV (bytesOf t)))
  | 0, i, hi => by
    obtain rfl : i = n := by omega
    refine Ev.last fun k => ?_
    simp only [securelinkref4_decimal.l0]
    rw [hn, if_neg (by omega), List.take_of_length_le (by rw [bytesOf_length]; omega)]
  | m + 1, i, hi => by
    have hbt : bt t (i : Int) = el (bytesOf t) i := by
      have h := byt_at t i (by omega)
      simp only [bt, Int.toNat_natCast]
      rw [dif_pos (by omega), h]
    have hlt : i < (bytesOf t).length := by rw [bytesOf_length]; omega
    have hx := hdig (el (bytesOf t) i) (by
      simp only [el, List.getD_eq_getElem?_getD, List.getElem?_eq_getElem hlt, Option.getD_some]
      exact List.getElem_mem _)
    have hr := decV_range i ((bytesOf t).take i) (by simp; omega) (fun y hy => hdig y (List.mem_of_mem_take hy))
    have htk : decV ((bytesOf t).take (i + 1)) = decV ((bytesOf t).take i) * 10 + (el (bytesOf t) i - 48) := by rw [take_snoc' _ _ hlt, decV_snoc]
    obtain ⟨V, eV⟩ : ∃ V, V = decV ((bytesOf t).take i) := ⟨_, rfl⟩
    rw [← eV] at hr htk ⊢
    have h1 := times_f (NN (1 + 2 * i) V) [10] (1 + 2 * i) 1 (NN_len _ _) rfl (NN_dig _ _) (by intro x hx; simp at hx; omega) (by omega)
    rw [vv_NN _ _ hr, show vv [10] = 10 from rfl] at h1
    have h2 := plus_f (NN (1 + 2 * i + 1) (V * 10)) [el (bytesOf t) i - 48] (1 + 2 * i + 1) (by rw [NN_len]; simp) (NN_dig _ _) (by intro x hx; simp at hx; omega) (by omega)
    rw [vv_NN _ _ (by
      rw [Int.pow_succ]
      generalize (4294967296 : Int) ^ (1 + 2 * i) = P at *
      omega), show vv [el (bytesOf t) i - 48] = el (bytesOf t) i - 48 by simp [vv, dL], ← htk] at h2
    have ih := decimal_l t n hn hsz hdig m (i + 1) (by omega)
    rw [show 1 + 2 * (i + 1) = 1 + 2 * i + 1 + 1 by omega] at ih
    refine (h1.bind (G := fun T k => (if 0 ≤ (i : Int) then ((securelinkref4_plus.f k T (([((bt t (i : Int)) - 48) % 256] : List Int))).bind fun t142 => (securelinkref4_decimal.l0 k t t142 (wrap64 ((i : Int) + 1)))) else (none))) (h2.bind (G := fun T k => securelinkref4_decimal.l0 k t T (wrap64 ((i : Int) + 1))) (ih.same fun k => by rw [w64 _ (by omega)]; rfl) fun k => ?_) fun k => rfl).step (F := fun k => securelinkref4_decimal.l0 k t (NN (1 + 2 * i) V) (i : Int)) fun k => ?_
    · rw [if_pos (by omega), hbt, show (el (bytesOf t) i - 48) % 256 = el (bytesOf t) i - 48 by omega]
    · simp only [securelinkref4_decimal.l0]
      rw [hn, if_pos (by omega)]
theorem decimal_f (t : ByteArray) (hsz : t.size ≤ 1000) (hdig : ∀ x ∈ bytesOf t, 48 ≤ x ∧ x ≤ 57) : Ev (fun k => securelinkref4_decimal.f k t) (NN (1 + 2 * t.size) (decV (bytesOf t))) := decimal_l t t.size rfl hsz hdig t.size 0 (by omega)

theorem minus_NN (na nb : Nat) (A B V : Int) (hA : 0 ≤ A ∧ A < 4294967296 ^ na) (hB : 0 ≤ B ∧ B < 4294967296 ^ nb) (hle : B ≤ A) (hn : na ≤ 1000000) (e : A - B = V) : Ev (fun k => securelinkref4_minus.f k (NN na A) (NN nb B)) (NN na V) := by
  have h := minus_f (NN na A) (NN nb B) na (NN_len _ _) (NN_dig _ _) (NN_dig _ _) hn (vv_take_all _ na (NN_dig _ _) (by rw [vv_NN _ _ hB]; omega)) (by rw [vv_NN _ _ hB, vv_NN _ _ hA]; exact hle)
  rw [vv_NN _ _ hB, vv_NN _ _ hA, e] at h
  exact h
theorem plus_NN (na nb n : Nat) (A B V : Int) (hA : 0 ≤ A ∧ A < 4294967296 ^ na) (hB : 0 ≤ B ∧ B < 4294967296 ^ nb) (hm : max na nb = n) (hn : n ≤ 1000000) (e : A + B = V) : Ev (fun k => securelinkref4_plus.f k (NN na A) (NN nb B)) (NN (n + 1) V) := by
  have h := plus_f (NN na A) (NN nb B) n (by rw [NN_len, NN_len]; exact hm) (NN_dig _ _) (NN_dig _ _) hn
  rw [vv_NN _ _ hB, vv_NN _ _ hA, e] at h
  exact h
theorem eight_NN (n : Nat) (A : Int) (hA : 0 ≤ A ∧ A < 4294967296 ^ n) (h8 : A < 4294967296 ^ 8) : Ev (fun k => securelinkref4_eight.f k (NN n A)) (NN 8 A) := by
  have h := eight_f (NN n A) (NN_dig _ _) (by rw [vv_NN _ _ hA]; exact h8)
  rw [vv_NN _ _ hA] at h
  exact h
theorem Ev.bindO {α β : Type} {F : Nat → Option β} {L : Option α} {G : α → Nat → Option β} {t : α} {r : β} (hL : L = some t) (h : Ev (G t) r) (e : ∀ k, F k = L.bind fun x => G x k) : Ev F r := h.same fun k => by rw [e, hL, Option.bind_some]
theorem dec1 : Ev (fun k => securelinkref4_decimal.f k (⟨#[50, 55, 55, 52, 50, 51, 49, 55, 55, 55, 55, 51, 55, 50, 51, 53, 51, 53, 51, 53, 56, 53, 49, 57, 51, 55, 55, 57, 48, 56, 56, 51, 54, 52, 56, 52, 57, 51]⟩ : ByteArray)) (NN 77 27742317777372353535851937790883648493) := by
  have h := decimal_f (⟨#[50, 55, 55, 52, 50, 51, 49, 55, 55, 55, 55, 51, 55, 50, 51, 53, 51, 53, 51, 53, 56, 53, 49, 57, 51, 55, 55, 57, 48, 56, 56, 51, 54, 52, 56, 52, 57, 51]⟩ : ByteArray) (by decide) (by decide)
  exact h
theorem dec3 : Ev (fun k => securelinkref4_decimal.f k (⟨#[56, 57, 49, 56, 56, 49, 57, 49, 48, 55, 53, 51, 50, 53, 54, 57, 48, 53, 57, 55, 49, 48, 55, 57, 49, 48, 50, 48, 53, 48, 52, 49, 56, 53, 57, 50, 52, 55]⟩ : ByteArray)) (NN 77 89188191075325690597107910205041859247) := by
  have h := decimal_f (⟨#[56, 57, 49, 56, 56, 49, 57, 49, 48, 55, 53, 51, 50, 53, 54, 57, 48, 53, 57, 55, 49, 48, 55, 57, 49, 48, 50, 48, 53, 48, 52, 49, 56, 53, 57, 50, 52, 55]⟩ : ByteArray) (by decide) (by decide)
  exact h

theorem make0 : Ev (fun k => securelinkref4_Make.f k 0) (NN 8 57896044618658097711785492504343953926634992332820282019728792003956564819949) := by
  refine Ev.bindO (G := fun x k => (securelinkref4_minus.f k x [19]).bind fun t157 => ((securelinkref4_eight.f k t157).bind fun t160 => (some t160))) power255 ?_ (fun k => by unfold securelinkref4_Make.f; rw [if_pos rfl])
  refine Ev.bind (G := fun x k => (securelinkref4_eight.f k x).bind fun t160 => (some t160)) (minus_NN 8 1 57896044618658097711785492504343953926634992332820282019728792003956564819968 19 57896044618658097711785492504343953926634992332820282019728792003956564819949 (by simp only [Int.reducePow]; omega) (by simp only [Int.reducePow]; omega) (by omega) (by omega) (by omega)) ?_ fun k => rfl
  exact Ev.bind (G := fun x k => some x) (eight_NN 8 57896044618658097711785492504343953926634992332820282019728792003956564819949 (by simp only [Int.reducePow]; omega) (by simp only [Int.reducePow]; omega)) (Ev.now fun k => rfl) fun k => rfl
theorem make1 : Ev (fun k => securelinkref4_Make.f k 1) (NN 8 7237005577332262213973186563042994240857116359379907606001950938285454250989) := by
  refine Ev.bindO (G := fun x k => (securelinkref4_decimal.f k (⟨#[50, 55, 55, 52, 50, 51, 49, 55, 55, 55, 55, 51, 55, 50, 51, 53, 51, 53, 51, 53, 56, 53, 49, 57, 51, 55, 55, 57, 48, 56, 56, 51, 54, 52, 56, 52, 57, 51]⟩ : ByteArray)).bind fun y => ((securelinkref4_plus.f k x y).bind fun t169 => ((securelinkref4_eight.f k t169).bind fun t172 => (some t172)))) power252 ?_ (fun k => by unfold securelinkref4_Make.f; rw [if_neg (by omega), if_pos rfl])
  refine Ev.bind (G := fun y k => (securelinkref4_plus.f k _ y).bind fun t169 => ((securelinkref4_eight.f k t169).bind fun t172 => (some t172))) dec1 ?_ fun k => rfl
  refine Ev.bind (G := fun x k => (securelinkref4_eight.f k x).bind fun t160 => (some t160)) (plus_NN 8 77 77 7237005577332262213973186563042994240829374041602535252466099000494570602496 27742317777372353535851937790883648493 7237005577332262213973186563042994240857116359379907606001950938285454250989 (by simp only [Int.reducePow]; omega) (by simp only [Int.reducePow]; omega) (by omega) (by omega) (by omega)) ?_ fun k => rfl
  exact Ev.bind (G := fun x k => some x) (eight_NN 78 7237005577332262213973186563042994240857116359379907606001950938285454250989 (by simp only [Int.reducePow]; omega) (by simp only [Int.reducePow]; omega)) (Ev.now fun k => rfl) fun k => rfl

theorem make2 : Ev (fun k => securelinkref4_Make.f k 2) (NN 8 115792089210356248762697446949407573530086143415290314195533631308867097853951) := by
  refine Ev.bindO (G := fun x k => (securelinkref4_power.f 224).bind fun t178 => ((securelinkref4_minus.f k x t178).bind fun t181 => ((securelinkref4_power.f 192).bind fun t184 => ((securelinkref4_plus.f k t181 t184).bind fun t187 => ((securelinkref4_power.f 96).bind fun t190 => ((securelinkref4_plus.f k t187 t190).bind fun t193 => ((securelinkref4_minus.f k t193 (([1] : List Int))).bind fun t199 => ((securelinkref4_eight.f k t199).bind fun t202 => (some t202))))))))) power256 ?_ (fun k => by unfold securelinkref4_Make.f; rw [if_neg (by omega), if_neg (by omega), if_pos rfl])
  refine Ev.bindO (G := fun t178 k => (securelinkref4_minus.f k _ t178).bind fun t181 => ((securelinkref4_power.f 192).bind fun t184 => ((securelinkref4_plus.f k t181 t184).bind fun t187 => ((securelinkref4_power.f 96).bind fun t190 => ((securelinkref4_plus.f k t187 t190).bind fun t193 => ((securelinkref4_minus.f k t193 (([1] : List Int))).bind fun t199 => ((securelinkref4_eight.f k t199).bind fun t202 => (some t202)))))))) power224 ?_ fun k => rfl
  refine Ev.bind (G := fun t181 k => (securelinkref4_power.f 192).bind fun t184 => ((securelinkref4_plus.f k t181 t184).bind fun t187 => ((securelinkref4_power.f 96).bind fun t190 => ((securelinkref4_plus.f k t187 t190).bind fun t193 => ((securelinkref4_minus.f k t193 (([1] : List Int))).bind fun t199 => ((securelinkref4_eight.f k t199).bind fun t202 => (some t202))))))) (minus_NN 9 8 115792089237316195423570985008687907853269984665640564039457584007913129639936 26959946667150639794667015087019630673637144422540572481103610249216 115792089210356248756420345214020892766250353992003419616917011526809519390720 (by simp only [Int.reducePow]; omega) (by simp only [Int.reducePow]; omega) (by omega) (by omega) (by omega)) ?_ fun k => rfl
  refine Ev.bindO (G := fun t184 k => (securelinkref4_plus.f k _ t184).bind fun t187 => ((securelinkref4_power.f 96).bind fun t190 => ((securelinkref4_plus.f k t187 t190).bind fun t193 => ((securelinkref4_minus.f k t193 (([1] : List Int))).bind fun t199 => ((securelinkref4_eight.f k t199).bind fun t202 => (some t202)))))) power192 ?_ fun k => rfl
  refine Ev.bind (G := fun t187 k => (securelinkref4_power.f 96).bind fun t190 => ((securelinkref4_plus.f k t187 t190).bind fun t193 => ((securelinkref4_minus.f k t193 (([1] : List Int))).bind fun t199 => ((securelinkref4_eight.f k t199).bind fun t202 => (some t202))))) (plus_NN 9 7 9 115792089210356248756420345214020892766250353992003419616917011526809519390720 6277101735386680763835789423207666416102355444464034512896 115792089210356248762697446949407573530086143415211086033019366971273553903616 (by simp only [Int.reducePow]; omega) (by simp only [Int.reducePow]; omega) (by omega) (by omega) (by omega)) ?_ fun k => rfl
  refine Ev.bindO (G := fun t190 k => (securelinkref4_plus.f k _ t190).bind fun t193 => ((securelinkref4_minus.f k t193 (([1] : List Int))).bind fun t199 => ((securelinkref4_eight.f k t199).bind fun t202 => (some t202)))) power96 ?_ fun k => rfl
  refine Ev.bind (G := fun t193 k => (securelinkref4_minus.f k t193 (([1] : List Int))).bind fun t199 => ((securelinkref4_eight.f k t199).bind fun t202 => (some t202))) (plus_NN 10 4 10 115792089210356248762697446949407573530086143415211086033019366971273553903616 79228162514264337593543950336 115792089210356248762697446949407573530086143415290314195533631308867097853952 (by simp only [Int.reducePow]; omega) (by simp only [Int.reducePow]; omega) (by omega) (by omega) (by omega)) ?_ fun k => rfl
  refine Ev.bind (G := fun x k => (securelinkref4_eight.f k x).bind fun t160 => (some t160)) (minus_NN 11 1 115792089210356248762697446949407573530086143415290314195533631308867097853952 1 115792089210356248762697446949407573530086143415290314195533631308867097853951 (by simp only [Int.reducePow]; omega) (by simp only [Int.reducePow]; omega) (by omega) (by omega) (by omega)) ?_ fun k => rfl
  exact Ev.bind (G := fun x k => some x) (eight_NN 11 115792089210356248762697446949407573530086143415290314195533631308867097853951 (by simp only [Int.reducePow]; omega) (by simp only [Int.reducePow]; omega)) (Ev.now fun k => rfl) fun k => rfl
theorem make3 : Ev (fun k => securelinkref4_Make.f k 3) (NN 8 115792089210356248762697446949407573529996955224135760342422259061068512044369) := by
  refine Ev.bindO (G := fun x k => (securelinkref4_power.f 224).bind fun t178 => ((securelinkref4_minus.f k x t178).bind fun t181 => ((securelinkref4_power.f 192).bind fun t184 => ((securelinkref4_plus.f k t181 t184).bind fun t187 => ((securelinkref4_decimal.f k (⟨#[56, 57, 49, 56, 56, 49, 57, 49, 48, 55, 53, 51, 50, 53, 54, 57, 48, 53, 57, 55, 49, 48, 55, 57, 49, 48, 50, 48, 53, 48, 52, 49, 56, 53, 57, 50, 52, 55]⟩ : ByteArray)).bind fun t190 => ((securelinkref4_minus.f k t187 t190).bind fun t199 => ((securelinkref4_eight.f k t199).bind fun t202 => (some t202)))))))) power256 ?_ (fun k => by unfold securelinkref4_Make.f; rw [if_neg (by omega), if_neg (by omega), if_neg (by omega), if_pos rfl])
  refine Ev.bindO (G := fun t178 k => (securelinkref4_minus.f k _ t178).bind fun t181 => ((securelinkref4_power.f 192).bind fun t184 => ((securelinkref4_plus.f k t181 t184).bind fun t187 => ((securelinkref4_decimal.f k (⟨#[56, 57, 49, 56, 56, 49, 57, 49, 48, 55, 53, 51, 50, 53, 54, 57, 48, 53, 57, 55, 49, 48, 55, 57, 49, 48, 50, 48, 53, 48, 52, 49, 56, 53, 57, 50, 52, 55]⟩ : ByteArray)).bind fun t190 => ((securelinkref4_minus.f k t187 t190).bind fun t199 => ((securelinkref4_eight.f k t199).bind fun t202 => (some t202))))))) power224 ?_ fun k => rfl
  refine Ev.bind (G := fun t181 k => (securelinkref4_power.f 192).bind fun t184 => ((securelinkref4_plus.f k t181 t184).bind fun t187 => ((securelinkref4_decimal.f k (⟨#[56, 57, 49, 56, 56, 49, 57, 49, 48, 55, 53, 51, 50, 53, 54, 57, 48, 53, 57, 55, 49, 48, 55, 57, 49, 48, 50, 48, 53, 48, 52, 49, 56, 53, 57, 50, 52, 55]⟩ : ByteArray)).bind fun t190 => ((securelinkref4_minus.f k t187 t190).bind fun t199 => ((securelinkref4_eight.f k t199).bind fun t202 => (some t202)))))) (minus_NN 9 8 115792089237316195423570985008687907853269984665640564039457584007913129639936 26959946667150639794667015087019630673637144422540572481103610249216 115792089210356248756420345214020892766250353992003419616917011526809519390720 (by simp only [Int.reducePow]; omega) (by simp only [Int.reducePow]; omega) (by omega) (by omega) (by omega)) ?_ fun k => rfl
  refine Ev.bindO (G := fun t184 k => (securelinkref4_plus.f k _ t184).bind fun t187 => ((securelinkref4_decimal.f k (⟨#[56, 57, 49, 56, 56, 49, 57, 49, 48, 55, 53, 51, 50, 53, 54, 57, 48, 53, 57, 55, 49, 48, 55, 57, 49, 48, 50, 48, 53, 48, 52, 49, 56, 53, 57, 50, 52, 55]⟩ : ByteArray)).bind fun t190 => ((securelinkref4_minus.f k t187 t190).bind fun t199 => ((securelinkref4_eight.f k t199).bind fun t202 => (some t202))))) power192 ?_ fun k => rfl
  refine Ev.bind (G := fun t187 k => (securelinkref4_decimal.f k (⟨#[56, 57, 49, 56, 56, 49, 57, 49, 48, 55, 53, 51, 50, 53, 54, 57, 48, 53, 57, 55, 49, 48, 55, 57, 49, 48, 50, 48, 53, 48, 52, 49, 56, 53, 57, 50, 52, 55]⟩ : ByteArray)).bind fun t190 => ((securelinkref4_minus.f k t187 t190).bind fun t199 => ((securelinkref4_eight.f k t199).bind fun t202 => (some t202)))) (plus_NN 9 7 9 115792089210356248756420345214020892766250353992003419616917011526809519390720 6277101735386680763835789423207666416102355444464034512896 115792089210356248762697446949407573530086143415211086033019366971273553903616 (by simp only [Int.reducePow]; omega) (by simp only [Int.reducePow]; omega) (by omega) (by omega) (by omega)) ?_ fun k => rfl
  refine Ev.bind (G := fun t190 k => (securelinkref4_minus.f k _ t190).bind fun t199 => ((securelinkref4_eight.f k t199).bind fun t202 => (some t202))) dec3 ?_ fun k => rfl
  refine Ev.bind (G := fun x k => (securelinkref4_eight.f k x).bind fun t160 => (some t160)) (minus_NN 10 77 115792089210356248762697446949407573530086143415211086033019366971273553903616 89188191075325690597107910205041859247 115792089210356248762697446949407573529996955224135760342422259061068512044369 (by simp only [Int.reducePow]; omega) (by simp only [Int.reducePow]; omega) (by omega) (by omega) (by omega)) ?_ fun k => rfl
  exact Ev.bind (G := fun x k => some x) (eight_NN 10 115792089210356248762697446949407573529996955224135760342422259061068512044369 (by simp only [Int.reducePow]; omega) (by simp only [Int.reducePow]; omega)) (Ev.now fun k => rfl) fun k => rfl
theorem make_f : ∀ k : Nat, k < 4 → Ev (fun q => securelinkref4_Make.f q (k : Int)) (NN 8 (par k).M)
  | 0, _ => make0
  | 1, _ => make1
  | 2, _ => make2
  | 3, _ => make3
  | k + 4, h => absurd h (by omega)
end Go.Proofs.YtamfbmchamgddaaDoor
