/-
  A region that draws its order: operations that are quiet in a class of worlds; operations that are pure and may float; last the few that write, in their order.
-/
import Derived.Test.YtdocbmgledebaaaReg
namespace Go.Proofs.Ytdocbmgledebaaa
set_option linter.unusedVariables false
set_option linter.unusedSimpArgs false
open Go
section
variable {P : Program} {ops : Array Oper} {md : Region.Mode} {C : World → Prop}

/-- an operation ends at once with v, in world w' -/
def upN (v : Value) (w' : World) : Result Next → Prop
  | .ok (.value u) w'' => w'' = w' ∧ u = v
  | .ok .skip w'' => w'' = w' ∧ v = undef
  | _ => False
def nOp (P : Program) (ops : Array Oper) (i : Nat) (K : Act → World → Prop) (a : Act) (w : World) : Prop :=
  match ops[i]? with
  | none => K a w
  | some o => if Region.wanted o (yielded ops a.tmps) then ∃ v w', upN v w' ((execOp a.eval o).run P w) ∧ K (a.put o.dst v) w' else K (a.put o.dst undef) w
def wpN (P : Program) (md : Region.Mode) (ops : Array Oper) (Q : Act → World → Prop) : Nat → Array Bool → Act → World → Prop
  | 0, listed, a, w => Region.ready md ops listed = [] ∧ Q a w
  | f + 1, listed, a, w => Region.ready md ops listed ≠ [] ∧ ∀ i ∈ Region.ready md ops listed, nOp P ops i (wpN P md ops Q f (listed.setIfInBounds i true)) a w
def wp0 (P : Program) (md : Region.Mode) (ops : Array Oper) (C : World → Prop) (t : List Nat) (Q : Act → World → Prop) : Nat → Array Bool → Act → Prop
  | 0, _, _ => False
  | f + 1, listed, a => Region.ready md ops listed ≠ [] ∧ ∀ i ∈ Region.ready md ops listed,
      (i ∈ t → ∀ w, C w → nOp P ops i (wpN P md ops Q f (listed.setIfInBounds i true)) a w) ∧ (i ∉ t → qOp P ops C i (wp0 P md ops C t Q f (listed.setIfInBounds i true)) a)

theorem nOp_mono {i : Nat} {K K' : Act → World → Prop} {a : Act} {w : World} (h : ∀ a w, K a w → K' a w) (hh : nOp P ops i K a w) : nOp P ops i K' a w := by
  unfold nOp at *
  split
  · exact h _ _ (by simpa [*] using hh)
  · rename_i o ho
    simp only [ho] at hh
    split
    · rename_i hw; simp only [hw, if_true] at hh; obtain ⟨v, w', h1, h2⟩ := hh; exact ⟨v, w', h1, h _ _ h2⟩
    · rename_i hw; simp only [hw] at hh; exact h _ _ hh
theorem wpOp_of_nOp {i : Nat} {K : Act → World → Prop} {Q' : Exit → Act → World → Prop} {a : Act} {w : World} (hh : nOp P ops i K a w) : wpOp P ops Q' i K a w := by
  unfold nOp at hh
  unfold wpOp
  split
  · rename_i ho; simp only [ho] at hh; exact hh
  · rename_i o ho
    simp only [ho] at hh
    split
    · rename_i hw
      simp only [hw, if_true] at hh
      obtain ⟨v, w', h1, h2⟩ := hh
      refine .inl ?_
      unfold Oper.wp
      generalize (execOp a.eval o).run P w = r at *
      cases r with
      | ok n w'' =>
        cases n <;> simp only [upN] at h1 <;> simp only [Oper.upon]
        case value u => obtain ⟨e1, e2⟩ := h1; rw [e1, e2]; exact h2
        case skip => obtain ⟨e1, e2⟩ := h1; rw [e1, ← e2]; exact h2
      | halt x w'' => simp only [upN] at h1
    · rename_i hw; simp only [hw] at hh; exact hh
theorem wpAny_of_wpN {Q : Act → World → Prop} {Q' : Exit → Act → World → Prop} (hQ : ∀ a w, Q a w → Q' .normal a w) : ∀ (f : Nat) (listed : Array Bool) (a : Act) (w : World), wpN P md ops Q f listed a w → wpAny P md ops Q' f listed a w
  | 0, _, _, _, h => ⟨h.1, hQ _ _ h.2⟩
  | f + 1, _, _, _, h => ⟨fun h0 => absurd h0 h.1, fun i hi => wpOp_mono (fun a' w' h' => wpAny_of_wpN hQ f _ a' w' h') (wpOp_of_nOp (h.2 i hi))⟩
theorem wpAny_of_wp0 {t : List Nat} {Q : Act → World → Prop} {Q' : Exit → Act → World → Prop} (hQ : ∀ a w, Q a w → Q' .normal a w) : ∀ (f : Nat) (listed : Array Bool) (a : Act) (w : World), C w → wp0 P md ops C t Q f listed a → wpAny P md ops Q' f listed a w
  | 0, _, _, _, _, h => h.elim
  | f + 1, _, _, w, hw, h => ⟨fun h0 => absurd h0 h.1, fun i hi => by
      by_cases hit : i ∈ t
      · exact wpOp_mono (fun a' w' h' => wpAny_of_wpN hQ f _ a' w' h') (wpOp_of_nOp ((h.2 i hi).1 hit w hw))
      · exact wpOp_of_qOp hw (fun a' w' hw' h' => wpAny_of_wp0 hQ f _ a' w' hw' h') ((h.2 i hi).2 hit)⟩

theorem Yields.nOp {i : Nat} {o : Oper} {v : Value} {a : Act} (hi : ops[i]? = some o) (hy : Yields P ops o v a) {K : Act → World → Prop} {w : World} (h : K (a.put o.dst v) w) : nOp P ops i K a w := by
  unfold Go.Proofs.Ytdocbmgledebaaa.nOp
  simp only [hi]
  rcases hy with ⟨hw, hv⟩ | ⟨hw, rfl⟩
  · simp only [hw, if_true, hv w]; exact ⟨v, w, ⟨rfl, rfl⟩, h⟩
  · simp only [hw, Bool.false_eq_true, if_false]; exact h
theorem Yields.yin {o : Oper} {v : Value} {a : Act} (hy : Yields P ops o v a) : YieldsIn P ops C o v a := by
  rcases hy with ⟨hw, hv⟩ | h
  · exact .inl ⟨hw, fun w hC => by unfold Oper.quietAt; rw [hv w]; exact ⟨rfl, rfl⟩⟩
  · exact .inr h
theorem nOp_put {j : Nat} {oi oj : Oper} {v : Value} (hj : ops[j]? = some oj) (hap : oi.apart ops oj = true)
    (hsi : ∀ cs b, oi.op ≠ .select cs b) (hsj : ∀ cs b, oj.op ≠ .select cs b) {K : Act → World → Prop} {a : Act} {w : World}
    (hy : Yields P ops oi v a) (h : nOp P ops j K (a.put oi.dst v) w) :
    nOp P ops j (fun a' w' => Yields P ops oi v a' ∧ K (a'.put oi.dst v) w') a w := by
  obtain ⟨h1, h2, h3⟩ := Oper.apart_spec hap
  have keep : ∀ (a : Act), Yields P ops oi v a → ∀ u, Yields P ops oi v (a.put oj.dst u) := fun a hy u =>
    hy.of_same (execOp_put oi hsi a oj.dst u h3) (wanted_put oi a oj.dst u h3)
  unfold nOp at *
  simp only [hj] at *
  rw [wanted_put oj a oi.dst v h1] at h
  split
  · rename_i hw
    simp only [hw, if_true] at h
    obtain ⟨u, w', hu, hn⟩ := h
    rw [execOp_put oj hsj a oi.dst v h1] at hu
    exact ⟨u, w', hu, keep a hy u, by rw [← Act.put_comm a v u h2]; exact hn⟩
  · rename_i hw
    simp only [hw] at h
    exact ⟨keep a hy _, by rw [← Act.put_comm a v undef h2]; exact h⟩
theorem qOp_putY {j : Nat} {oi oj : Oper} {v : Value} (hj : ops[j]? = some oj) (hap : oi.apart ops oj = true)
    (hsi : ∀ cs b, oi.op ≠ .select cs b) (hsj : ∀ cs b, oj.op ≠ .select cs b) {K : Act → Prop} {a : Act}
    (hy : Yields P ops oi v a) (h : qOp P ops C j K (a.put oi.dst v)) :
    qOp P ops C j (fun a' => Yields P ops oi v a' ∧ K (a'.put oi.dst v)) a := by
  obtain ⟨h1, h2, h3⟩ := Oper.apart_spec hap
  have keep : ∀ (a : Act), Yields P ops oi v a → ∀ u, Yields P ops oi v (a.put oj.dst u) := fun a hy u =>
    hy.of_same (execOp_put oi hsi a oj.dst u h3) (wanted_put oi a oj.dst u h3)
  unfold qOp at *
  simp only [hj] at *
  rw [wanted_put oj a oi.dst v h1] at h
  split
  · rename_i hw
    simp only [hw, if_true] at h
    obtain ⟨u, hu, hn⟩ := h
    refine ⟨u, fun w hw' => ?_, keep a hy u, by rw [← Act.put_comm a v u h2]; exact hn⟩
    have := hu w hw'
    unfold Oper.quietAt at *
    rwa [execOp_put oj hsj a oi.dst v h1] at this
  · rename_i hw
    simp only [hw] at h
    exact ⟨keep a hy _, by rw [← Act.put_comm a v undef h2]; exact h⟩

/-- what the others are to operation i -/
def FreeOf (md : Region.Mode) (ops : Array Oper) (listed : Array Bool) (i : Nat) (oi : Oper) : Prop :=
  ∀ j oj, ops[j]? = some oj → j ≠ i → listed.getD j true = false → (∀ e ∈ oj.after, Region.binds md e = true → e.on ≠ i) → oi.apart ops oj = true
theorem FreeOf.set {listed : Array Bool} {i j : Nat} {oi : Oper} (h : FreeOf md ops listed i oi) (hjun : listed.getD j true = false) : FreeOf md ops (listed.setIfInBounds j true) i oi := fun k ok hk hki hun hno => by
  refine h k ok hk hki ?_ hno
  by_cases hjk : j = k
  · subst hjk; exact hjun
  · rw [getD_set_ne true hjk] at hun; exact hun
theorem ready_not {i j : Nat} {oj : Oper} {listed : Array Bool} (hr : i ∈ Region.ready md ops listed) (hoj : ops[j]? = some oj) (hj : j ∈ Region.ready md ops listed) : ∀ e ∈ oj.after, Region.binds md e = true → e.on ≠ i := fun e he hb heq => by
  obtain ⟨hjun, oj', hoj', hall⟩ := mem_ready.1 hj
  obtain rfl : oj' = oj := Option.some.inj (hoj'.symm.trans hoj)
  have h1 := hall e he hb
  rw [heq, getD_both (mem_ready.1 hr).1] at h1
  cases h1

theorem wpN_first {Q : Act → World → Prop} {i : Nat} {oi : Oper} {v : Value} (hi : ops[i]? = some oi) (hsel : ∀ (j : Nat) (o : Oper) cs b, ops[j]? = some o → o.op ≠ .select cs b) :
    ∀ (f : Nat) (listed : Array Bool) (a : Act) (w : World), FreeOf md ops listed i oi → i ∈ Region.ready md ops listed → Yields P ops oi v a →
      wpN P md ops Q f (listed.setIfInBounds i true) (a.put oi.dst v) w → wpN P md ops Q (f + 1) listed a w := by
  intro f
  induction f with
  | zero =>
    intro listed a w _ hr hy H
    refine ⟨fun h => (by rw [h] at hr; cases hr), fun j hj => ?_⟩
    by_cases hji : j = i
    · subst hji; exact Yields.nOp hi hy H
    · have := ready_mono hj hji
      rw [H.1] at this
      cases this
  | succ f ih =>
    intro listed a w hfree hr hy H
    refine ⟨fun h => (by rw [h] at hr; cases hr), fun j hj => ?_⟩
    by_cases hji : j = i
    · subst hji; exact Yields.nOp hi hy H
    · have h1 := H.2 j (ready_mono hj hji)
      obtain ⟨hjun, oj, hoj, hall⟩ := mem_ready.1 hj
      have h2 := nOp_put hoj (hfree j oj hoj hji hjun (ready_not hr hoj hj)) (fun cs b => hsel i oi cs b hi) (fun cs b => hsel j oj cs b hoj) hy h1
      refine nOp_mono (fun a' w' h3 => ih (listed.setIfInBounds j true) a' w' (hfree.set hjun) (ready_mono hr (Ne.symm hji)) h3.1 ?_) h2
      rw [Array.setIfInBounds_comm _ _ hji]
      exact h3.2

theorem wp0_pure {t : List Nat} {Q : Act → World → Prop} {i : Nat} {oi : Oper} {v : Value} (hi : ops[i]? = some oi) (hit : i ∉ t) (hsel : ∀ (j : Nat) (o : Oper) cs b, ops[j]? = some o → o.op ≠ .select cs b) :
    ∀ (f : Nat) (listed : Array Bool) (a : Act), FreeOf md ops listed i oi → i ∈ Region.ready md ops listed → Yields P ops oi v a →
      wp0 P md ops C t Q f (listed.setIfInBounds i true) (a.put oi.dst v) → wp0 P md ops C t Q (f + 1) listed a := by
  intro f
  induction f with
  | zero => intro listed a _ hr hy H; exact H.elim
  | succ f ih =>
    intro listed a hfree hr hy H
    refine ⟨fun h => (by rw [h] at hr; cases hr), fun j hj => ?_⟩
    by_cases hji : j = i
    · subst hji; exact ⟨fun h => absurd h hit, fun _ => (Yields.yin hy).qOp hi H⟩
    · have h1 := H.2 j (ready_mono hj hji)
      obtain ⟨hjun, oj, hoj, hall⟩ := mem_ready.1 hj
      have hap := hfree j oj hoj hji hjun (ready_not hr hoj hj)
      refine ⟨fun hjt w hw => ?_, fun hjt => ?_⟩
      · have h2 := nOp_put hoj hap (fun cs b => hsel i oi cs b hi) (fun cs b => hsel j oj cs b hoj) hy (h1.1 hjt w hw)
        refine nOp_mono (fun a' w' h3 => wpN_first hi hsel f (listed.setIfInBounds j true) a' w' (hfree.set hjun) (ready_mono hr (Ne.symm hji)) h3.1 ?_) h2
        rw [Array.setIfInBounds_comm _ _ hji]
        exact h3.2
      · have h2 := qOp_putY hoj hap (fun cs b => hsel i oi cs b hi) (fun cs b => hsel j oj cs b hoj) hy (h1.2 hjt)
        refine qOp_mono (fun a' h3 => ih (listed.setIfInBounds j true) a' (hfree.set hjun) (ready_mono hr (Ne.symm hji)) h3.1 ?_) h2
        rw [Array.setIfInBounds_comm _ _ hji]
        exact h3.2

/-- listed is closed; nothing of t stands in it -/
structure Inv0 (md : Region.Mode) (ops : Array Oper) (t : List Nat) (listed : Array Bool) : Prop where
  size : listed.size = ops.size
  closed : ∀ j oj, ops[j]? = some oj → listed.getD j false = true → ∀ e ∈ oj.after, Region.binds md e = true → listed.getD e.on false = true
  none : ∀ k ∈ t, k < ops.size → listed.getD k true = false
theorem Inv0.set {t : List Nat} {i : Nat} {listed : Array Bool} (inv : Inv0 md ops t listed) (hi : i ∈ Region.ready md ops listed) (hit : i ∉ t) : Inv0 md ops t (listed.setIfInBounds i true) := by
  obtain ⟨_, oi, hoi, hall⟩ := mem_ready.1 hi
  refine ⟨by simp [inv.size], fun j oj hj hl e he hb => ?_, fun k hk hk' => by rw [getD_set_ne true (fun h => hit (by rw [h]; exact hk))]; exact inv.none k hk hk'⟩
  by_cases hij : i = j
  · subst hij
    have : oj = oi := Option.some.inj (hj.symm.trans hoi)
    subst this
    exact getD_set_true (hall e he hb)
  · rw [getD_set_ne false hij] at hl
    exact getD_set_true (inv.closed j oj hj hl e he hb)

def sinkP (md : Region.Mode) (ops : Array Oper) (p : List Nat) (e : Nat) : Bool := p.all fun i => (p ++ [e]).any fun j => decide (i < j) && Region.waitsFor md ops j i
def chainT (md : Region.Mode) (ops : Array Oper) (e : Nat) (t : List Nat) : Bool := t.all fun k => k == e || t.any fun k' => Region.waitsFor md ops k k'

theorem noT {p t : List Nat} {e : Nat} {listed : Array Bool} (he : e ∈ t) (hN : e < ops.size) (hpN : ∀ i ∈ p, i < ops.size) (htN : ∀ i ∈ t, i < ops.size) (hs : sinkP md ops p e = true) (hc : chainT md ops e t = true) (inv : Inv0 md ops t listed) :
    ∀ (d i : Nat), ops.size - i = d → i ∈ p → listed.getD i true = false → ∀ k ∈ t, k ∉ Region.ready md ops listed := by
  intro d
  induction d using Nat.strongRecOn with
  | _ d ih =>
    intro i hd hi hun k hk hr
    obtain ⟨_, ok, hok, hall⟩ := mem_ready.1 hr
    by_cases hke : k = e
    · subst hke
      have h1 := List.all_eq_true.1 hs i hi
      obtain ⟨j, hj, hj2⟩ := List.any_eq_true.1 h1
      simp only [Bool.and_eq_true, decide_eq_true_eq] at hj2
      obtain ⟨oj, hoj, g, hg, hb, hon⟩ := Region.waitsFor_spec hj2.2
      rcases List.mem_append.1 hj with hj | hj
      · cases hl : listed.getD j false with
        | true =>
          have h2 := inv.closed j oj hoj hl g hg hb
          rw [hon, getD_both hun] at h2
          cases h2
        | false =>
          have hjs : j < listed.size := by rw [inv.size]; exact hpN j hj
          exact ih (ops.size - j) (by have := hpN j hj; omega) j rfl hj (getD_in hjs hl) k hk hr
      · obtain rfl : j = k := by simpa using hj
        have : oj = ok := Option.some.inj (hoj.symm.trans hok)
        subst this
        have h2 := hall g hg hb
        rw [hon, getD_both hun] at h2
        cases h2
    · have h1 := List.all_eq_true.1 hc k hk
      simp only [Bool.or_eq_true, beq_iff_eq, hke, false_or] at h1
      obtain ⟨k', hk', h1⟩ := List.any_eq_true.1 h1
      obtain ⟨o', ho', g, hg, hb, hon⟩ := Region.waitsFor_spec h1
      have : o' = ok := Option.some.inj (ho'.symm.trans hok)
      subst this
      have h2 := hall g hg hb
      rw [hon, getD_both (inv.none k' hk' (htN k' hk'))] at h2
      cases h2

theorem wp0_first {p t : List Nat} {e : Nat} {Q : Act → World → Prop} {i : Nat} {oi : Oper} {v : Value} (hi : ops[i]? = some oi) (hip : i ∈ p) (hit : i ∉ t) (hsel : ∀ (j : Nat) (o : Oper) cs b, ops[j]? = some o → o.op ≠ .select cs b)
    (he : e ∈ t) (hN : e < ops.size) (hpN : ∀ i ∈ p, i < ops.size) (htN : ∀ i ∈ t, i < ops.size) (hs : sinkP md ops p e = true) (hc : chainT md ops e t = true) :
    ∀ (f : Nat) (listed : Array Bool) (a : Act), Inv0 md ops t listed → FreeOf md ops listed i oi → i ∈ Region.ready md ops listed → YieldsIn P ops C oi v a →
      wp0 P md ops C t Q f (listed.setIfInBounds i true) (a.put oi.dst v) → wp0 P md ops C t Q (f + 1) listed a := by
  intro f
  induction f with
  | zero => intro listed a _ _ hr hy H; exact H.elim
  | succ f ih =>
    intro listed a inv hfree hr hy H
    refine ⟨fun h => (by rw [h] at hr; cases hr), fun j hj => ?_⟩
    by_cases hji : j = i
    · subst hji; exact ⟨fun h => absurd h hit, fun _ => hy.qOp hi H⟩
    · have h1 := H.2 j (ready_mono hj hji)
      obtain ⟨hjun, oj, hoj, hall⟩ := mem_ready.1 hj
      have hap := hfree j oj hoj hji hjun (ready_not hr hoj hj)
      refine ⟨fun hjt w hw => absurd hj (noT he hN hpN htN hs hc inv _ i rfl hip (mem_ready.1 hr).1 j hjt), fun hjt => ?_⟩
      have h2 := qOp_put hoj hap (fun cs b => hsel i oi cs b hi) (fun cs b => hsel j oj cs b hoj) hy (h1.2 hjt)
      refine qOp_mono (fun a' h3 => ih (listed.setIfInBounds j true) a' (inv.set hj hjt) (hfree.set hjun) (ready_mono hr (Ne.symm hji)) h3.1 ?_) h2
      rw [Array.setIfInBounds_comm _ _ hji]
      exact h3.2

/-- the writes, in their order -/
def nList (P : Program) (ops : Array Oper) (Q : Act → World → Prop) : List Oper → Act → World → Prop
  | [], a, w => Q a w
  | o :: r, a, w => if Region.wanted o (yielded ops a.tmps) then ∃ v w', upN v w' ((execOp a.eval o).run P w) ∧ nList P ops Q r (a.put o.dst v) w' else nList P ops Q r (a.put o.dst undef) w
/-- the pure ones -/
def pList (P : Program) (ops : Array Oper) (Q : Act → Prop) : List Oper → Act → Prop
  | [], a => Q a
  | o :: r, a => if Region.wanted o (yielded ops a.tmps) then ∃ v, (∀ w, (execOp a.eval o).run P w = .ok (.value v) w) ∧ pList P ops Q r (a.put o.dst v) else pList P ops Q r (a.put o.dst undef)

def Reads (ops : Array Oper) : List Nat → List Oper → Prop
  | [], [] => True
  | i :: r, o :: l => ops[i]? = some o ∧ Reads ops r l
  | _, _ => False
def seqT (md : Region.Mode) (ops : Array Oper) : List Nat → Array Bool → Bool
  | [], listed => (Region.ready md ops listed).isEmpty
  | i :: r, listed => decide (Region.ready md ops listed = [i]) && seqT md ops r (listed.setIfInBounds i true)
def lexP (md : Region.Mode) (ops : Array Oper) (t : List Nat) : List Nat → Array Bool → Bool
  | [], listed => seqT md ops t listed
  | i :: r, listed => (Region.ready md ops listed).contains i && Region.free md ops listed i && !(t.contains i) && lexP md ops t r (listed.setIfInBounds i true)

theorem wpN_seq {Q : Act → World → Prop} : ∀ (t : List Nat) (lt : List Oper) (listed : Array Bool) (a : Act) (w : World), Reads ops t lt → seqT md ops t listed = true → nList P ops Q lt a w → wpN P md ops Q t.length listed a w
  | [], [], _, _, _, _, hB, h => ⟨by simpa [seqT] using hB, h⟩
  | [], _ :: _, _, _, _, hR, _, _ => hR.elim
  | _ :: _, [], _, _, _, hR, _, _ => hR.elim
  | i :: t, o :: lt, listed, a, w, hR, hB, h => by
    simp only [seqT, Bool.and_eq_true, decide_eq_true_eq] at hB
    refine ⟨fun h1 => (by rw [hB.1] at h1; cases h1), fun k hk => ?_⟩
    rw [hB.1] at hk
    obtain rfl : k = i := by simpa using hk
    unfold nList at h
    unfold nOp
    simp only [hR.1]
    split
    · rename_i hw
      simp only [hw, if_true] at h
      obtain ⟨v, w', h1, h2⟩ := h
      exact ⟨v, w', h1, wpN_seq t lt _ _ _ hR.2 hB.2 h2⟩
    · rename_i hw
      simp only [hw] at h
      exact wpN_seq t lt _ _ _ hR.2 hB.2 h
theorem wp0_seq {Q : Act → World → Prop} {t0 : List Nat} (t : List Nat) (lt : List Oper) (listed : Array Bool) (a : Act) (ht0 : ∀ i ∈ t, i ∈ t0) (hne : t ≠ []) (hR : Reads ops t lt) (hB : seqT md ops t listed = true)
    (h : ∀ w, C w → nList P ops Q lt a w) : wp0 P md ops C t0 Q t.length listed a := by
  cases t with
  | nil => exact absurd rfl hne
  | cons i t =>
    cases lt with
    | nil => exact hR.elim
    | cons o lt =>
      have hB2 := hB
      simp only [seqT, Bool.and_eq_true, decide_eq_true_eq] at hB
      refine ⟨fun h1 => (by rw [hB.1] at h1; cases h1), fun k hk => ?_⟩
      rw [hB.1] at hk
      obtain rfl : k = i := by simpa using hk
      refine ⟨fun _ w hw => ?_, fun hk => absurd (ht0 k (by simp)) hk⟩
      have := wpN_seq (md := md) (k :: t) (o :: lt) listed a w hR hB2 (h w hw)
      exact this.2 k (by rw [hB.1]; simp)

theorem wp0_lex {p t : List Nat} {e : Nat} {Q : Act → World → Prop} (hsel : Region.noSelect ops = true) (he : e ∈ t) (hN : e < ops.size) (hpN : ∀ i ∈ p, i < ops.size) (htN : ∀ i ∈ t, i < ops.size) (hs : sinkP md ops p e = true) (hc : chainT md ops e t = true)
    (f : List Nat) (lf lt : List Oper) (hRf : Reads ops f lf) (hRt : Reads ops t lt) :
    ∀ (q : List Nat) (lq : List Oper) (listed : Array Bool) (a : Act), (∀ i ∈ q, i ∈ p) → Inv0 md ops t listed → Reads ops q lq → lexP md ops t (q ++ f) listed = true →
      wpQuiet P ops C (pList P ops (fun a' => ∀ w, C w → nList P ops Q lt a' w) lf) lq a → wp0 P md ops C t Q (q.length + (f.length + t.length)) listed a := by
  have pure : ∀ (f : List Nat) (lf : List Oper) (listed : Array Bool) (a : Act), Reads ops f lf → lexP md ops t f listed = true →
      pList P ops (fun a' => ∀ w, C w → nList P ops Q lt a' w) lf a → wp0 P md ops C t Q (f.length + t.length) listed a := by
    intro f
    induction f with
    | nil =>
      intro lf listed a hR hB h
      cases lf with
      | cons _ _ => exact hR.elim
      | nil =>
        rw [List.length_nil, Nat.zero_add]
        exact wp0_seq t lt listed a (fun _ h => h) (fun h => by rw [h] at he; cases he) hRt hB h
    | cons i f ih =>
      intro lf listed a hR hB h
      cases lf with
      | nil => exact hR.elim
      | cons o lf =>
        simp only [lexP, Bool.and_eq_true, Bool.not_eq_true', List.contains_eq_mem, decide_eq_true_eq, decide_eq_false_iff_not] at hB
        obtain ⟨⟨⟨hr, hf⟩, hit⟩, hB'⟩ := hB
        rw [List.length_cons, show f.length + 1 + t.length = (f.length + t.length) + 1 by omega]
        unfold pList at h
        by_cases hw : Region.wanted o (yielded ops a.tmps) = true
        · simp only [hw, if_true] at h
          obtain ⟨v, h1, h2⟩ := h
          exact wp0_pure hR.1 hit (Region.noSelect_spec hsel) _ listed a (Region.free_spec hR.1 hf) hr (.inl ⟨hw, h1⟩) (ih lf _ _ hR.2 hB' h2)
        · simp only [hw] at h
          exact wp0_pure hR.1 hit (Region.noSelect_spec hsel) _ listed a (Region.free_spec hR.1 hf) hr (.inr ⟨by simpa using hw, rfl⟩) (ih lf _ _ hR.2 hB' h)
  intro q
  induction q with
  | nil =>
    intro lq listed a hq inv hR hB h
    cases lq with
    | cons _ _ => exact hR.elim
    | nil =>
      rw [List.length_nil, Nat.zero_add]
      exact pure f lf listed a hRf (by simpa using hB) h
  | cons i q ih =>
    intro lq listed a hq inv hR hB h
    cases lq with
    | nil => exact hR.elim
    | cons o lq =>
      simp only [List.cons_append, lexP, Bool.and_eq_true, Bool.not_eq_true', List.contains_eq_mem, decide_eq_true_eq, decide_eq_false_iff_not] at hB
      obtain ⟨⟨⟨hr, hf⟩, hit⟩, hB'⟩ := hB
      rw [List.length_cons, show q.length + 1 + (f.length + t.length) = (q.length + (f.length + t.length)) + 1 by omega]
      have hst : qOp P ops C i (wpQuiet P ops C (pList P ops (fun a' => ∀ w, C w → nList P ops Q lt a' w) lf) lq) a := by unfold qOp; simp only [hR.1]; exact h
      obtain ⟨v, hy, hK⟩ := yieldsIn_of_qOp hR.1 hst
      exact wp0_first hR.1 (hq i (by simp)) hit (Region.noSelect_spec hsel) he hN hpN htN hs hc _ listed a inv (Region.free_spec hR.1 hf) hr hy
        (ih lq _ _ (fun k hk => hq k (by simp [hk])) (inv.set hr hit) hR.2 hB' hK)

def pick : List Bool → List Oper → List Oper
  | true :: m, o :: l => o :: pick m l
  | false :: m, _ :: l => pick m l
  | _, _ => []
def idx : List Bool → Nat → List Nat
  | true :: m, k => k :: idx m (k + 1)
  | false :: m, k => idx m (k + 1)
  | [], _ => []
theorem pick_t (m : List Bool) (o : Oper) (l : List Oper) : pick (true :: m) (o :: l) = o :: pick m l := rfl
theorem pick_f (m : List Bool) (o : Oper) (l : List Oper) : pick (false :: m) (o :: l) = pick m l := rfl
theorem pick_n (l : List Oper) : pick [] l = [] := by cases l <;> rfl
theorem pick_reads : ∀ (m : List Bool) (l : List Oper) (k : Nat), m.length ≤ l.length → (∀ j, j < l.length → l[j]? = ops[k + j]?) → Reads ops (idx m k) (pick m l)
  | [], l, k, _, _ => by rw [pick_n]; trivial
  | b :: m, [], k, h, _ => by simp at h
  | b :: m, o :: l, k, h, hl => by
    have ih := pick_reads m l (k + 1) (by simpa using h) (fun j hj => by have := hl (j + 1) (by simp; omega); simpa [Nat.add_assoc, Nat.add_comm 1 j] using this)
    have h0 : ops[k]? = some o := by simpa using (hl 0 (by simp)).symm
    cases b with
    | true => exact ⟨h0, ih⟩
    | false => exact ih
def fltB (md : Region.Mode) (ops : Array Oper) (p f t : List Nat) : Bool :=
  match t with
  | [] => false
  | e :: t' => Region.noSelect ops && decide (p.length + (f.length + (e :: t').length) = ops.size) && p.all (fun i => decide (i < ops.size)) && (e :: t').all (fun i => decide (i < ops.size)) && sinkP md ops p e && chainT md ops e (e :: t') && lexP md ops (e :: t') (p ++ f) (Array.replicate ops.size false)

/-- THE LAW. mp: the quiet ones; mf: the pure ones that may float; mt: the writes. -/
theorem region_float {id : Nat} {Q : Exit → Act → World → Prop} {a : Act} {w : World} {l : List Oper} (mp mf mt : List Bool) (hm : P.follows .mixedOrders = true) (hlen : (mp.length ≤ l.length ∧ mf.length ≤ l.length) ∧ mt.length ≤ l.length)
    (hB : fltB .any l.toArray (idx mp 0) (idx mf 0) (idx mt 0) = true) (hC : C w.drew)
    (h : wpQuiet P l.toArray C (pList P l.toArray (fun a' => ∀ w2, C w2 → nList P l.toArray (fun a w => Q .normal a w) (pick mt l) a' w2) (pick mf l)) (pick mp l) a) : (Code.region id l.toArray true).wp P Q a w := by
  have hr := fun m (hm : m.length ≤ l.length) => pick_reads (ops := l.toArray) m l 0 hm (fun j hj => by simp)
  have hrp := hr mp hlen.1.1
  have hrf := hr mf hlen.1.2
  have hrt := hr mt hlen.2
  generalize idx mp 0 = p at *
  generalize idx mf 0 = f at *
  generalize idx mt 0 = t at *
  unfold fltB at hB
  cases t with
  | nil => cases hB
  | cons e t =>
    simp only [Bool.and_eq_true, decide_eq_true_eq, List.all_eq_true] at hB
    obtain ⟨⟨⟨⟨⟨⟨hsel, hsz⟩, hpN⟩, htN⟩, hs⟩, hc⟩, hlex⟩ := hB
    refine wp_region_any hm ?_
    have key := wp0_lex (Q := fun a w => Q .normal a w) hsel (by simp) (htN e (by simp)) hpN htN hs hc f _ _ hrf hrt p _ _ a (fun _ h => h)
      ⟨by simp, fun j oj _ hl => (by rw [getD_replicate_false] at hl; cases hl), fun k hk hk' => getD_in (by simpa using hk') (getD_replicate_false _ _)⟩ hrp hlex h
    rw [hsz] at key
    exact wpAny_of_wp0 (fun _ _ h => h) _ _ _ _ hC key

theorem nList_step {Q : Act → World → Prop} {a : Act} {w : World} {o : Oper} {rest : List Oper} (h : ∀ K : Act → World → Prop, (∀ a w, nList P ops Q rest a w → K a w) →
    if Region.wanted o (yielded ops a.tmps) then ∃ v w', upN v w' ((execOp a.eval o).run P w) ∧ K (a.put o.dst v) w' else K (a.put o.dst undef) w) : nList P ops Q (o :: rest) a w := by
  have := h (nList P ops Q rest) (fun _ _ h => h)
  unfold nList
  exact this
theorem pList_step {Q : Act → Prop} {a : Act} {o : Oper} {rest : List Oper} (h : ∀ K : Act → Prop, (∀ a, pList P ops Q rest a → K a) →
    if Region.wanted o (yielded ops a.tmps) then ∃ v, (∀ w, (execOp a.eval o).run P w = .ok (.value v) w) ∧ K (a.put o.dst v) else K (a.put o.dst undef)) : pList P ops Q (o :: rest) a := by
  have := h (pList P ops Q rest) (fun _ h => h)
  unfold pList
  exact this
theorem nList_nil {Q : Act → World → Prop} {a : Act} {w : World} (h : Q a w) : nList P ops Q [] a w := h
theorem pList_nil {Q : Act → Prop} {a : Act} (h : Q a) : pList P ops Q [] a := h
end
end Go.Proofs.Ytdocbmgledebaaa
