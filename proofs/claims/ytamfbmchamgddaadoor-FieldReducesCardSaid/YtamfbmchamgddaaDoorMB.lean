/-
  Several texts in one.
-/
import Derived.Test.YtamfbmchamgddaaDoorMA
import Derived.Laws.CopyOwn
/-
  A region that draws its order: operations that are quiet in a class of worlds; operations that are pure and may float; last the few that write, in their order.
-/
namespace Go.Proofs.YtamfbmchamgddaaDoor
set_option linter.unusedVariables false
set_option linter.unusedSimpArgs false
open Go
section
variable {P : Program} {ops : Array Oper} {md : Region.Mode} {C : World → Prop}

/-- an operation ends at once with v, in world w' -/
def upN (v : Value) (w' : World) : Result Next → Prop
  | .ok (.value u) w'' => w'' = w' ∧ u = v
  | .ok .skip w'' => w'' = w' ∧ v = undef
  | _ => False
def nOp (P : Program) (ops : Array Oper) (i : Nat) (K : Act → World → Prop) (a : Act) (w : World) : Prop :=
  match ops[i]? with
  | none => K a w
  | some o => if Region.wanted o (yielded ops a.tmps) then ∃ v w', upN v w' ((execOp a.eval o).run P w) ∧ K (a.put o.dst v) w' else K (a.put o.dst undef) w
def wpN (P : Program) (md : Region.Mode) (ops : Array Oper) (Q : Act → World → Prop) : Nat → Array Bool → Act → World → Prop
  | 0, listed, a, w => Region.ready md ops listed = [] ∧ Q a w
  | f + 1, listed, a, w => Region.ready md ops listed ≠ [] ∧ ∀ i ∈ Region.ready md ops listed, nOp P ops i (wpN P md ops Q f (listed.setIfInBounds i true)) a w
def wp0 (P : Program) (md : Region.Mode) (ops : Array Oper) (C : World → Prop) (t : List Nat) (Q : Act → World → Prop) : Nat → Array Bool → Act → Prop
  | 0, _, _ => False
  | f + 1, listed, a => Region.ready md ops listed ≠ [] ∧ ∀ i ∈ Region.ready md ops listed,
      (i ∈ t → ∀ w, C w → nOp P ops i (wpN P md ops Q f (listed.setIfInBounds i true)) a w) ∧ (i ∉ t → qOp P ops C i (wp0 P md ops C t Q f (listed.setIfInBounds i true)) a)

theorem nOp_mono {i : Nat} {K K' : Act → World → Prop} {a : Act} {w : World} (h : ∀ a w, K a w → K' a w) (hh : nOp P ops i K a w) : nOp P ops i K' a w := by
  unfold nOp at *
  split
  · exact h _ _ (by simpa [*] using hh)
  · rename_i o ho
    simp only [ho] at hh
    split
    · rename_i hw; simp only [hw, if_true] at hh; obtain ⟨v, w', h1, h2⟩ := hh; exact ⟨v, w', h1, h _ _ h2⟩
    · rename_i hw; simp only [hw] at hh; exact h _ _ hh
theorem wpOp_of_nOp {i : Nat} {K : Act → World → Prop} {Q' : Exit → Act → World → Prop} {a : Act} {w : World} (hh : nOp P ops i K a w) : wpOp P ops Q' i K a w := by
  unfold nOp at hh
  unfold wpOp
  split
  · rename_i ho; simp only [ho] at hh; exact hh
  · rename_i o ho
    simp only [ho] at hh
    split
    · rename_i hw
      simp only [hw, if_true] at hh
      obtain ⟨v, w', h1, h2⟩ := hh
      refine .inl ?_
      unfold Oper.wp
      generalize (execOp a.eval o).run P w = r at *
      cases r with
      | ok n w'' =>
        cases n <;> simp only [upN] at h1 <;> simp only [Oper.upon]
        case value u => obtain ⟨e1, e2⟩ := h1; rw [e1, e2]; exact h2
        case skip => obtain ⟨e1, e2⟩ := h1; rw [e1, ← e2]; exact h2
      | halt x w'' => simp only [upN] at h1
    · rename_i hw; simp only [hw] at hh; exact hh
theorem wpAny_of_wpN {Q : Act → World → Prop} {Q' : Exit → Act → World → Prop} (hQ : ∀ a w, Q a w → Q' .normal a w) : ∀ (f : Nat) (listed : Array Bool) (a : Act) (w : World), wpN P md ops Q f listed a w → wpAny P md ops Q' f listed a w
  | 0, _, _, _, h => ⟨h.1, hQ _ _ h.2⟩
  | f + 1, _, _, _, h => ⟨fun h0 => absurd h0 h.1, fun i hi => wpOp_mono (fun a' w' h' => wpAny_of_wpN hQ f _ a' w' h') (wpOp_of_nOp (h.2 i hi))⟩
theorem wpAny_of_wp0 {t : List Nat} {Q : Act → World → Prop} {Q' : Exit → Act → World → Prop} (hQ : ∀ a w, Q a w → Q' .normal a w) : ∀ (f : Nat) (listed : Array Bool) (a : Act) (w : World), C w → wp0 P md ops C t Q f listed a → wpAny P md ops Q' f listed a w
  | 0, _, _, _, _, h => h.elim
  | f + 1, _, _, w, hw, h => ⟨fun h0 => absurd h0 h.1, fun i hi => by
      by_cases hit : i ∈ t
      · exact wpOp_mono (fun a' w' h' => wpAny_of_wpN hQ f _ a' w' h') (wpOp_of_nOp ((h.2 i hi).1 hit w hw))
      · exact wpOp_of_qOp hw (fun a' w' hw' h' => wpAny_of_wp0 hQ f _ a' w' hw' h') ((h.2 i hi).2 hit)⟩

theorem Yields.nOp {i : Nat} {o : Oper} {v : Value} {a : Act} (hi : ops[i]? = some o) (hy : Yields P ops o v a) {K : Act → World → Prop} {w : World} (h : K (a.put o.dst v) w) : nOp P ops i K a w := by
  unfold Go.Proofs.YtamfbmchamgddaaDoor.nOp
  simp only [hi]
  rcases hy with ⟨hw, hv⟩ | ⟨hw, rfl⟩
  · simp only [hw, if_true, hv w]; exact ⟨v, w, ⟨rfl, rfl⟩, h⟩
  · simp only [hw, Bool.false_eq_true, if_false]; exact h
theorem Yields.yin {o : Oper} {v : Value} {a : Act} (hy : Yields P ops o v a) : YieldsIn P ops C o v a := by
  rcases hy with ⟨hw, hv⟩ | h
  · exact .inl ⟨hw, fun w hC => by unfold Oper.quietAt; rw [hv w]; exact ⟨rfl, rfl⟩⟩
  · exact .inr h
theorem nOp_put {j : Nat} {oi oj : Oper} {v : Value} (hj : ops[j]? = some oj) (hap : oi.apart ops oj = true)
    (hsi : ∀ cs b, oi.op ≠ .select cs b) (hsj : ∀ cs b, oj.op ≠ .select cs b) {K : Act → World → Prop} {a : Act} {w : World}
    (hy : Yields P ops oi v a) (h : nOp P ops j K (a.put oi.dst v) w) :
    nOp P ops j (fun a' w' => Yields P ops oi v a' ∧ K (a'.put oi.dst v) w') a w := by
  obtain ⟨h1, h2, h3⟩ := Oper.apart_spec hap
  have keep : ∀ (a : Act), Yields P ops oi v a → ∀ u, Yields P ops oi v (a.put oj.dst u) := fun a hy u =>
    hy.of_same (execOp_put oi hsi a oj.dst u h3) (wanted_put oi a oj.dst u h3)
  unfold nOp at *
  simp only [hj] at *
  rw [wanted_put oj a oi.dst v h1] at h
  split
  · rename_i hw
    simp only [hw, if_true] at h
    obtain ⟨u, w', hu, hn⟩ := h
    rw [execOp_put oj hsj a oi.dst v h1] at hu
    exact ⟨u, w', hu, keep a hy u, by rw [← Act.put_comm a v u h2]; exact hn⟩
  · rename_i hw
    simp only [hw] at h
    exact ⟨keep a hy _, by rw [← Act.put_comm a v undef h2]; exact h⟩
theorem qOp_putY {j : Nat} {oi oj : Oper} {v : Value} (hj : ops[j]? = some oj) (hap : oi.apart ops oj = true)
    (hsi : ∀ cs b, oi.op ≠ .select cs b) (hsj : ∀ cs b, oj.op ≠ .select cs b) {K : Act → Prop} {a : Act}
    (hy : Yields P ops oi v a) (h : qOp P ops C j K (a.put oi.dst v)) :
    qOp P ops C j (fun a' => Yields P ops oi v a' ∧ K (a'.put oi.dst v)) a := by
  obtain ⟨h1, h2, h3⟩ := Oper.apart_spec hap
  have keep : ∀ (a : Act), Yields P ops oi v a → ∀ u, Yields P ops oi v (a.put oj.dst u) := fun a hy u =>
    hy.of_same (execOp_put oi hsi a oj.dst u h3) (wanted_put oi a oj.dst u h3)
  unfold qOp at *
  simp only [hj] at *
  rw [wanted_put oj a oi.dst v h1] at h
  split
  · rename_i hw
    simp only [hw, if_true] at h
    obtain ⟨u, hu, hn⟩ := h
    refine ⟨u, fun w hw' => ?_, keep a hy u, by rw [← Act.put_comm a v u h2]; exact hn⟩
    have := hu w hw'
    unfold Oper.quietAt at *
    rwa [execOp_put oj hsj a oi.dst v h1] at this
  · rename_i hw
    simp only [hw] at h
    exact ⟨keep a hy _, by rw [← Act.put_comm a v undef h2]; exact h⟩

/-- what the others are to operation i -/
def FreeOf (md : Region.Mode) (ops : Array Oper) (listed : Array Bool) (i : Nat) (oi : Oper) : Prop :=
  ∀ j oj, ops[j]? = some oj → j ≠ i → listed.getD j true = false → (∀ e ∈ oj.after, Region.binds md e = true → e.on ≠ i) → oi.apart ops oj = true
theorem FreeOf.set {listed : Array Bool} {i j : Nat} {oi : Oper} (h : FreeOf md ops listed i oi) (hjun : listed.getD j true = false) : FreeOf md ops (listed.setIfInBounds j true) i oi := fun k ok hk hki hun hno => by
  refine h k ok hk hki ?_ hno
  by_cases hjk : j = k
  · subst hjk; exact hjun
  · rw [getD_set_ne true hjk] at hun; exact hun
theorem ready_not {i j : Nat} {oj : Oper} {listed : Array Bool} (hr : i ∈ Region.ready md ops listed) (hoj : ops[j]? = some oj) (hj : j ∈ Region.ready md ops listed) : ∀ e ∈ oj.after, Region.binds md e = true → e.on ≠ i := fun e he hb heq => by
  obtain ⟨hjun, oj', hoj', hall⟩ := mem_ready.1 hj
  obtain rfl : oj' = oj := Option.some.inj (hoj'.symm.trans hoj)
  have h1 := hall e he hb
  rw [heq, getD_both (mem_ready.1 hr).1] at h1
  cases h1

theorem wpN_first {Q : Act → World → Prop} {i : Nat} {oi : Oper} {v : Value} (hi : ops[i]? = some oi) (hsel : ∀ (j : Nat) (o : Oper) cs b, ops[j]? = some o → o.op ≠ .select cs b) :
    ∀ (f : Nat) (listed : Array Bool) (a : Act) (w : World), FreeOf md ops listed i oi → i ∈ Region.ready md ops listed → Yields P ops oi v a →
      wpN P md ops Q f (listed.setIfInBounds i true) (a.put oi.dst v) w → wpN P md ops Q (f + 1) listed a w := by
  intro f
  induction f with
  | zero =>
    intro listed a w _ hr hy H
    refine ⟨fun h => (by rw [h] at hr; cases hr), fun j hj => ?_⟩
    by_cases hji : j = i
    · subst hji; exact Yields.nOp hi hy H
    · have := ready_mono hj hji
      rw [H.1] at this
      cases this
  | succ f ih =>
    intro listed a w hfree hr hy H
    refine ⟨fun h => (by rw [h] at hr; cases hr), fun j hj => ?_⟩
    by_cases hji : j = i
    · subst hji; exact Yields.nOp hi hy H
    · have h1 := H.2 j (ready_mono hj hji)
      obtain ⟨hjun, oj, hoj, hall⟩ := mem_ready.1 hj
      have h2 := nOp_put hoj (hfree j oj hoj hji hjun (ready_not hr hoj hj)) (fun cs b => hsel i oi cs b hi) (fun cs b => hsel j oj cs b hoj) hy h1
      refine nOp_mono (fun a' w' h3 => ih (listed.setIfInBounds j true) a' w' (hfree.set hjun) (ready_mono hr (Ne.symm hji)) h3.1 ?_) h2
      rw [Array.setIfInBounds_comm _ _ hji]
      exact h3.2

theorem wp0_pure {t : List Nat} {Q : Act → World → Prop} {i : Nat} {oi : Oper} {v : Value} (hi : ops[i]? = some oi) (hit : i ∉ t) (hsel : ∀ (j : Nat) (o : Oper) cs b, ops[j]? = some o → o.op ≠ .select cs b) :
    ∀ (f : Nat) (listed : Array Bool) (a : Act), FreeOf md ops listed i oi → i ∈ Region.ready md ops listed → Yields P ops oi v a →
      wp0 P md ops C t Q f (listed.setIfInBounds i true) (a.put oi.dst v) → wp0 P md ops C t Q (f + 1) listed a := by
  intro f
  induction f with
  | zero => intro listed a _ hr hy H; exact H.elim
  | succ f ih =>
    intro listed a hfree hr hy H
    refine ⟨fun h => (by rw [h] at hr; cases hr), fun j hj => ?_⟩
    by_cases hji : j = i
    · subst hji; exact ⟨fun h => absurd h hit, fun _ => (Yields.yin hy).qOp hi H⟩
    · have h1 := H.2 j (ready_mono hj hji)
      obtain ⟨hjun, oj, hoj, hall⟩ := mem_ready.1 hj
      have hap := hfree j oj hoj hji hjun (ready_not hr hoj hj)
      refine ⟨fun hjt w hw => ?_, fun hjt => ?_⟩
      · have h2 := nOp_put hoj hap (fun cs b => hsel i oi cs b hi) (fun cs b => hsel j oj cs b hoj) hy (h1.1 hjt w hw)
        refine nOp_mono (fun a' w' h3 => wpN_first hi hsel f (listed.setIfInBounds j true) a' w' (hfree.set hjun) (ready_mono hr (Ne.symm hji)) h3.1 ?_) h2
        rw [Array.setIfInBounds_comm _ _ hji]
        exact h3.2
      · have h2 := qOp_putY hoj hap (fun cs b => hsel i oi cs b hi) (fun cs b => hsel j oj cs b hoj) hy (h1.2 hjt)
        refine qOp_mono (fun a' h3 => ih (listed.setIfInBounds j true) a' (hfree.set hjun) (ready_mono hr (Ne.symm hji)) h3.1 ?_) h2
        rw [Array.setIfInBounds_comm _ _ hji]
        exact h3.2

/-- listed is closed; nothing of t stands in it -/
structure Inv0 (md : Region.Mode) (ops : Array Oper) (t : List Nat) (listed : Array Bool) : Prop where
  size : listed.size = ops.size
  closed : ∀ j oj, ops[j]? = some oj → listed.getD j false = true → ∀ e ∈ oj.after, Region.binds md e = true → listed.getD e.on false = true
  none : ∀ k ∈ t, k < ops.size → listed.getD k true = false
theorem Inv0.set {t : List Nat} {i : Nat} {listed : Array Bool} (inv : Inv0 md ops t listed) (hi : i ∈ Region.ready md ops listed) (hit : i ∉ t) : Inv0 md ops t (listed.setIfInBounds i true) := by
  obtain ⟨_, oi, hoi, hall⟩ := mem_ready.1 hi
  refine ⟨by simp [inv.size], fun j oj hj hl e he hb => ?_, fun k hk hk' => by rw [getD_set_ne true (fun h => hit (by rw [h]; exact hk))]; exact inv.none k hk hk'⟩
  by_cases hij : i = j
  · subst hij
    have : oj = oi := Option.some.inj (hj.symm.trans hoi)
    subst this
    exact getD_set_true (hall e he hb)
  · rw [getD_set_ne false hij] at hl
    exact getD_set_true (inv.closed j oj hj hl e he hb)

def sinkP (md : Region.Mode) (ops : Array Oper) (p : List Nat) (e : Nat) : Bool := p.all fun i => (p ++ [e]).any fun j => decide (i < j) && Region.waitsFor md ops j i
def chainT (md : Region.Mode) (ops : Array Oper) (e : Nat) (t : List Nat) : Bool := t.all fun k => k == e || t.any fun k' => Region.waitsFor md ops k k'

theorem noT {p t : List Nat} {e : Nat} {listed : Array Bool} (he : e ∈ t) (hN : e < ops.size) (hpN : ∀ i ∈ p, i < ops.size) (htN : ∀ i ∈ t, i < ops.size) (hs : sinkP md ops p e = true) (hc : chainT md ops e t = true) (inv : Inv0 md ops t listed) :
    ∀ (d i : Nat), ops.size - i = d → i ∈ p → listed.getD i true = false → ∀ k ∈ t, k ∉ Region.ready md ops listed := by
  intro d
  induction d using Nat.strongRecOn with
  | _ d ih =>
    intro i hd hi hun k hk hr
    obtain ⟨_, ok, hok, hall⟩ := mem_ready.1 hr
    by_cases hke : k = e
    · subst hke
      have h1 := List.all_eq_true.1 hs i hi
      obtain ⟨j, hj, hj2⟩ := List.any_eq_true.1 h1
      simp only [Bool.and_eq_true, decide_eq_true_eq] at hj2
      obtain ⟨oj, hoj, g, hg, hb, hon⟩ := Region.waitsFor_spec hj2.2
      rcases List.mem_append.1 hj with hj | hj
      · cases hl : listed.getD j false with
        | true =>
          have h2 := inv.closed j oj hoj hl g hg hb
          rw [hon, getD_both hun] at h2
          cases h2
        | false =>
          have hjs : j < listed.size := by rw [inv.size]; exact hpN j hj
          exact ih (ops.size - j) (by have := hpN j hj; omega) j rfl hj (getD_in hjs hl) k hk hr
      · obtain rfl : j = k := by simpa using hj
        have : oj = ok := Option.some.inj (hoj.symm.trans hok)
        subst this
        have h2 := hall g hg hb
        rw [hon, getD_both hun] at h2
        cases h2
    · have h1 := List.all_eq_true.1 hc k hk
      simp only [Bool.or_eq_true, beq_iff_eq, hke, false_or] at h1
      obtain ⟨k', hk', h1⟩ := List.any_eq_true.1 h1
      obtain ⟨o', ho', g, hg, hb, hon⟩ := Region.waitsFor_spec h1
      have : o' = ok := Option.some.inj (ho'.symm.trans hok)
      subst this
      have h2 := hall g hg hb
      rw [hon, getD_both (inv.none k' hk' (htN k' hk'))] at h2
      cases h2

theorem wp0_first {p t : List Nat} {e : Nat} {Q : Act → World → Prop} {i : Nat} {oi : Oper} {v : Value} (hi : ops[i]? = some oi) (hip : i ∈ p) (hit : i ∉ t) (hsel : ∀ (j : Nat) (o : Oper) cs b, ops[j]? = some o → o.op ≠ .select cs b)
    (he : e ∈ t) (hN : e < ops.size) (hpN : ∀ i ∈ p, i < ops.size) (htN : ∀ i ∈ t, i < ops.size) (hs : sinkP md ops p e = true) (hc : chainT md ops e t = true) :
    ∀ (f : Nat) (listed : Array Bool) (a : Act), Inv0 md ops t listed → FreeOf md ops listed i oi → i ∈ Region.ready md ops listed → YieldsIn P ops C oi v a →
      wp0 P md ops C t Q f (listed.setIfInBounds i true) (a.put oi.dst v) → wp0 P md ops C t Q (f + 1) listed a := by
  intro f
  induction f with
  | zero => intro listed a _ _ hr hy H; exact H.elim
  | succ f ih =>
    intro listed a inv hfree hr hy H
    refine ⟨fun h => (by rw [h] at hr; cases hr), fun j hj => ?_⟩
    by_cases hji : j = i
    · subst hji; exact ⟨fun h => absurd h hit, fun _ => hy.qOp hi H⟩
    · have h1 := H.2 j (ready_mono hj hji)
      obtain ⟨hjun, oj, hoj, hall⟩ := mem_ready.1 hj
      have hap := hfree j oj hoj hji hjun (ready_not hr hoj hj)
      refine ⟨fun hjt w hw => absurd hj (noT he hN hpN htN hs hc inv _ i rfl hip (mem_ready.1 hr).1 j hjt), fun hjt => ?_⟩
      have h2 := qOp_put hoj hap (fun cs b => hsel i oi cs b hi) (fun cs b => hsel j oj cs b hoj) hy (h1.2 hjt)
      refine qOp_mono (fun a' h3 => ih (listed.setIfInBounds j true) a' (inv.set hj hjt) (hfree.set hjun) (ready_mono hr (Ne.symm hji)) h3.1 ?_) h2
      rw [Array.setIfInBounds_comm _ _ hji]
      exact h3.2

/-- the writes, in their order -/
def nList (P : Program) (ops : Array Oper) (Q : Act → World → Prop) : List Oper → Act → World → Prop
  | [], a, w => Q a w
  | o :: r, a, w => if Region.wanted o (yielded ops a.tmps) then ∃ v w', upN v w' ((execOp a.eval o).run P w) ∧ nList P ops Q r (a.put o.dst v) w' else nList P ops Q r (a.put o.dst undef) w
/-- the pure ones -/
def pList (P : Program) (ops : Array Oper) (Q : Act → Prop) : List Oper → Act → Prop
  | [], a => Q a
  | o :: r, a => if Region.wanted o (yielded ops a.tmps) then ∃ v, (∀ w, (execOp a.eval o).run P w = .ok (.value v) w) ∧ pList P ops Q r (a.put o.dst v) else pList P ops Q r (a.put o.dst undef)

def Reads (ops : Array Oper) : List Nat → List Oper → Prop
  | [], [] => True
  | i :: r, o :: l => ops[i]? = some o ∧ Reads ops r l
  | _, _ => False
def seqT (md : Region.Mode) (ops : Array Oper) : List Nat → Array Bool → Bool
  | [], listed => (Region.ready md ops listed).isEmpty
  | i :: r, listed => decide (Region.ready md ops listed = [i]) && seqT md ops r (listed.setIfInBounds i true)
def lexP (md : Region.Mode) (ops : Array Oper) (t : List Nat) : List Nat → Array Bool → Bool
  | [], listed => seqT md ops t listed
  | i :: r, listed => (Region.ready md ops listed).contains i && Region.free md ops listed i && !(t.contains i) && lexP md ops t r (listed.setIfInBounds i true)

theorem wpN_seq {Q : Act → World → Prop} : ∀ (t : List Nat) (lt : List Oper) (listed : Array Bool) (a : Act) (w : World), Reads ops t lt → seqT md ops t listed = true → nList P ops Q lt a w → wpN P md ops Q t.length listed a w
  | [], [], _, _, _, _, hB, h => ⟨by simpa [seqT] using hB, h⟩
  | [], _ :: _, _, _, _, hR, _, _ => hR.elim
  | _ :: _, [], _, _, _, hR, _, _ => hR.elim
  | i :: t, o :: lt, listed, a, w, hR, hB, h => by
    simp only [seqT, Bool.and_eq_true, decide_eq_true_eq] at hB
    refine ⟨fun h1 => (by rw [hB.1] at h1; cases h1), fun k hk => ?_⟩
    rw [hB.1] at hk
    obtain rfl : k = i := by simpa using hk
    unfold nList at h
    unfold nOp
    simp only [hR.1]
    split
    · rename_i hw
      simp only [hw, if_true] at h
      obtain ⟨v, w', h1, h2⟩ := h
      exact ⟨v, w', h1, wpN_seq t lt _ _ _ hR.2 hB.2 h2⟩
    · rename_i hw
      simp only [hw] at h
      exact wpN_seq t lt _ _ _ hR.2 hB.2 h
theorem wp0_seq {Q : Act → World → Prop} {t0 : List Nat} (t : List Nat) (lt : List Oper) (listed : Array Bool) (a : Act) (ht0 : ∀ i ∈ t, i ∈ t0) (hne : t ≠ []) (hR : Reads ops t lt) (hB : seqT md ops t listed = true)
    (h : ∀ w, C w → nList P ops Q lt a w) : wp0 P md ops C t0 Q t.length listed a := by
  cases t with
  | nil => exact absurd rfl hne
  | cons i t =>
    cases lt with
    | nil => exact hR.elim
    | cons o lt =>
      have hB2 := hB
      simp only [seqT, Bool.and_eq_true, decide_eq_true_eq] at hB
      refine ⟨fun h1 => (by rw [hB.1] at h1; cases h1), fun k hk => ?_⟩
      rw [hB.1] at hk
      obtain rfl : k = i := by simpa using hk
      refine ⟨fun _ w hw => ?_, fun hk => absurd (ht0 k (by simp)) hk⟩
      have := wpN_seq (md := md) (k :: t) (o :: lt) listed a w hR hB2 (h w hw)
      exact this.2 k (by rw [hB.1]; simp)

theorem wp0_lex {p t : List Nat} {e : Nat} {Q : Act → World → Prop} (hsel : Region.noSelect ops = true) (he : e ∈ t) (hN : e < ops.size) (hpN : ∀ i ∈ p, i < ops.size) (htN : ∀ i ∈ t, i < ops.size) (hs : sinkP md ops p e = true) (hc : chainT md ops e t = true)
    (f : List Nat) (lf lt : List Oper) (hRf : Reads ops f lf) (hRt : Reads ops t lt) :
    ∀ (q : List Nat) (lq : List Oper) (listed : Array Bool) (a : Act), (∀ i ∈ q, i ∈ p) → Inv0 md ops t listed → Reads ops q lq → lexP md ops t (q ++ f) listed = true →
      wpQuiet P ops C (pList P ops (fun a' => ∀ w, C w → nList P ops Q lt a' w) lf) lq a → wp0 P md ops C t Q (q.length + (f.length + t.length)) listed a := by
  have pure : ∀ (f : List Nat) (lf : List Oper) (listed : Array Bool) (a : Act), Reads ops f lf → lexP md ops t f listed = true →
      pList P ops (fun a' => ∀ w, C w → nList P ops Q lt a' w) lf a → wp0 P md ops C t Q (f.length + t.length) listed a := by
    intro f
    induction f with
    | nil =>
      intro lf listed a hR hB h
      cases lf with
      | cons _ _ => exact hR.elim
      | nil =>
        rw [List.length_nil, Nat.zero_add]
        exact wp0_seq t lt listed a (fun _ h => h) (fun h => by rw [h] at he; cases he) hRt hB h
    | cons i f ih =>
      intro lf listed a hR hB h
      cases lf with
      | nil => exact hR.elim
      | cons o lf =>
        simp only [lexP, Bool.and_eq_true, Bool.not_eq_true', List.contains_eq_mem, decide_eq_true_eq, decide_eq_false_iff_not] at hB
        obtain ⟨⟨⟨hr, hf⟩, hit⟩, hB'⟩ := hB
        rw [List.length_cons, show f.length + 1 + t.length = (f.length + t.length) + 1 by omega]
        unfold pList at h
        by_cases hw : Region.wanted o (yielded ops a.tmps) = true
        · simp only [hw, if_true] at h
          obtain ⟨v, h1, h2⟩ := h
          exact wp0_pure hR.1 hit (Region.noSelect_spec hsel) _ listed a (Region.free_spec hR.1 hf) hr (.inl ⟨hw, h1⟩) (ih lf _ _ hR.2 hB' h2)
        · simp only [hw] at h
          exact wp0_pure hR.1 hit (Region.noSelect_spec hsel) _ listed a (Region.free_spec hR.1 hf) hr (.inr ⟨by simpa using hw, rfl⟩) (ih lf _ _ hR.2 hB' h)
  intro q
  induction q with
  | nil =>
    intro lq listed a hq inv hR hB h
    cases lq with
    | cons _ _ => exact hR.elim
    | nil =>
      rw [List.length_nil, Nat.zero_add]
      exact pure f lf listed a hRf (by simpa using hB) h
  | cons i q ih =>
    intro lq listed a hq inv hR hB h
    cases lq with
    | nil => exact hR.elim
    | cons o lq =>
      simp only [List.cons_append, lexP, Bool.and_eq_true, Bool.not_eq_true', List.contains_eq_mem, decide_eq_true_eq, decide_eq_false_iff_not] at hB
      obtain ⟨⟨⟨hr, hf⟩, hit⟩, hB'⟩ := hB
      rw [List.length_cons, show q.length + 1 + (f.length + t.length) = (q.length + (f.length + t.length)) + 1 by omega]
      have hst : qOp P ops C i (wpQuiet P ops C (pList P ops (fun a' => ∀ w, C w → nList P ops Q lt a' w) lf) lq) a := by unfold qOp; simp only [hR.1]; exact h
      obtain ⟨v, hy, hK⟩ := yieldsIn_of_qOp hR.1 hst
      exact wp0_first hR.1 (hq i (by simp)) hit (Region.noSelect_spec hsel) he hN hpN htN hs hc _ listed a inv (Region.free_spec hR.1 hf) hr hy
        (ih lq _ _ (fun k hk => hq k (by simp [hk])) (inv.set hr hit) hR.2 hB' hK)

def pick : List Bool → List Oper → List Oper
  | true :: m, o :: l => o :: pick m l
  | false :: m, _ :: l => pick m l
  | _, _ => []
def idx : List Bool → Nat → List Nat
  | true :: m, k => k :: idx m (k + 1)
  | false :: m, k => idx m (k + 1)
  | [], _ => []
theorem pick_t (m : List Bool) (o : Oper) (l : List Oper) : pick (true :: m) (o :: l) = o :: pick m l := rfl
theorem pick_f (m : List Bool) (o : Oper) (l : List Oper) : pick (false :: m) (o :: l) = pick m l := rfl
theorem pick_n (l : List Oper) : pick [] l = [] := by cases l <;> rfl
theorem pick_reads : ∀ (m : List Bool) (l : List Oper) (k : Nat), m.length ≤ l.length → (∀ j, j < l.length → l[j]? = ops[k + j]?) → Reads ops (idx m k) (pick m l)
  | [], l, k, _, _ => by rw [pick_n]; trivial
  | b :: m, [], k, h, _ => by simp at h
  | b :: m, o :: l, k, h, hl => by
    have ih := pick_reads m l (k + 1) (by simpa using h) (fun j hj => by have := hl (j + 1) (by simp; omega); simpa [Nat.add_assoc, Nat.add_comm 1 j] using this)
    have h0 : ops[k]? = some o := by simpa using (hl 0 (by simp)).symm
    cases b with
    | true => exact ⟨h0, ih⟩
    | false => exact ih
def fltB (md : Region.Mode) (ops : Array Oper) (p f t : List Nat) : Bool :=
  match t with
  | [] => false
  | e :: t' => Region.noSelect ops && decide (p.length + (f.length + (e :: t').length) = ops.size) && p.all (fun i => decide (i < ops.size)) && (e :: t').all (fun i => decide (i < ops.size)) && sinkP md ops p e && chainT md ops e (e :: t') && lexP md ops (e :: t') (p ++ f) (Array.replicate ops.size false)

/-- THE LAW. mp: the quiet ones; mf: the pure ones that may float; mt: the writes. -/
theorem region_float {id : Nat} {Q : Exit → Act → World → Prop} {a : Act} {w : World} {l : List Oper} (mp mf mt : List Bool) (hm : P.follows .mixedOrders = true) (hlen : (mp.length ≤ l.length ∧ mf.length ≤ l.length) ∧ mt.length ≤ l.length)
    (hB : fltB .any l.toArray (idx mp 0) (idx mf 0) (idx mt 0) = true) (hC : C w.drew)
    (h : wpQuiet P l.toArray C (pList P l.toArray (fun a' => ∀ w2, C w2 → nList P l.toArray (fun a w => Q .normal a w) (pick mt l) a' w2) (pick mf l)) (pick mp l) a) : (Code.region id l.toArray true).wp P Q a w := by
  have hr := fun m (hm : m.length ≤ l.length) => pick_reads (ops := l.toArray) m l 0 hm (fun j hj => by simp)
  have hrp := hr mp hlen.1.1
  have hrf := hr mf hlen.1.2
  have hrt := hr mt hlen.2
  generalize idx mp 0 = p at *
  generalize idx mf 0 = f at *
  generalize idx mt 0 = t at *
  unfold fltB at hB
  cases t with
  | nil => cases hB
  | cons e t =>
    simp only [Bool.and_eq_true, decide_eq_true_eq, List.all_eq_true] at hB
    obtain ⟨⟨⟨⟨⟨⟨hsel, hsz⟩, hpN⟩, htN⟩, hs⟩, hc⟩, hlex⟩ := hB
    refine wp_region_any hm ?_
    have key := wp0_lex (Q := fun a w => Q .normal a w) hsel (by simp) (htN e (by simp)) hpN htN hs hc f _ _ hrf hrt p _ _ a (fun _ h => h)
      ⟨by simp, fun j oj _ hl => (by rw [getD_replicate_false] at hl; cases hl), fun k hk hk' => getD_in (by simpa using hk') (getD_replicate_false _ _)⟩ hrp hlex h
    rw [hsz] at key
    exact wpAny_of_wp0 (fun _ _ h => h) _ _ _ _ hC key

theorem nList_step {Q : Act → World → Prop} {a : Act} {w : World} {o : Oper} {rest : List Oper} (h : ∀ K : Act → World → Prop, (∀ a w, nList P ops Q rest a w → K a w) →
    if Region.wanted o (yielded ops a.tmps) then ∃ v w', upN v w' ((execOp a.eval o).run P w) ∧ K (a.put o.dst v) w' else K (a.put o.dst undef) w) : nList P ops Q (o :: rest) a w := by
  have := h (nList P ops Q rest) (fun _ _ h => h)
  unfold nList
  exact this
theorem pList_step {Q : Act → Prop} {a : Act} {o : Oper} {rest : List Oper} (h : ∀ K : Act → Prop, (∀ a, pList P ops Q rest a → K a) →
    if Region.wanted o (yielded ops a.tmps) then ∃ v, (∀ w, (execOp a.eval o).run P w = .ok (.value v) w) ∧ K (a.put o.dst v) else K (a.put o.dst undef)) : pList P ops Q (o :: rest) a := by
  have := h (pList P ops Q rest) (fun _ h => h)
  unfold pList
  exact this
theorem nList_nil {Q : Act → World → Prop} {a : Act} {w : World} (h : Q a w) : nList P ops Q [] a w := h
theorem pList_nil {Q : Act → Prop} {a : Act} (h : Q a) : pList P ops Q [] a := h
end
end Go.Proofs.YtamfbmchamgddaaDoor

/-
  Numbers of four words: sums, differences.
-/
namespace Go.Proofs.YtamfbmchamgddaaDoor
set_option linter.unusedVariables false
set_option linter.unusedSimpArgs false
open Go.RowKit Go.Proofs.YtamfbmchamgddaaDoorW.PrintWords

abbrev vW (l : List Int) : Int := dL 18446744073709551616 l
abbrev DW (l : List Int) : Prop := Dig 18446744073709551616 l
abbrev arr (l : List Int) : Value := .agg (l.map (Value.int .u64)).toArray
theorem DW.word {l : List Int} (h : DW l) (i : Nat) : Word (el l i) := by
  have := h.el (by omega) i
  unfold Word
  omega
theorem DW.put {l : List Int} (h : DW l) (i : Nat) (v : Int) (hv : Word v) : DW (l.set i v) := h.set i v ⟨hv.1, by have := hv.2; omega⟩
theorem vW_range {l : List Int} (h : DW l) : 0 ≤ vW l ∧ vW l < 18446744073709551616 ^ l.length := dL_range (by omega) l h

theorem results_blk2 {P : Program} {fn : Func} {p q : Tmp} {ty : TypeId} (h : fn.results = #[.cell p ty, .tmp q]) (tmps : Array Value) (w : World) {g : Nat} {k : IntKind} {t : TypeId} {l : List Int} {u : Value} (hp : tmps.getD p undef = .pointer (some ⟨g, 0, none⟩)) (hq : tmps.getD q undef = u) (hb : Blk w g k t l)
    {d : TypeDesc} (hu : P.underlying ty = some d) (hd : (match d with | .struct _ | .array _ _ => true | _ => false) = true) (hi : (P.info? ty).map (·.size) = some l.length) :
    (results fn tmps).run P w = .ok (.tuple #[.agg (l.map (Value.int k)).toArray, u]) w := by
  have hp' : tmps[p]?.getD undef = .pointer (some ⟨g, 0, none⟩) := by simpa using hp
  have hq' : tmps[q]?.getD undef = u := by simpa using hq
  have hr := run_loadVar_row (P := P) w g t ty (l.map (Value.int k)).toArray (0, 0) d hb hu hd (by rw [hi]; simp)
  simp [results, h, hp', hq', asAddr, hr]
theorem el_setv (l : List Int) (i : Nat) (v : Int) (h : i < l.length) : el (l.set i v) i = v := by rw [el_set, if_pos ⟨rfl, h⟩]
theorem take_set_past (l : List Int) (i : Nat) (v : Int) (k : Nat) (h : k ≤ i) : (l.set i v).take k = l.take k := by
  rw [List.take_set_of_le h]
theorem sum_step (VL Va Vc s c c' x y P : Int) (h : VL + P * c = Va + Vc) (e : s + 18446744073709551616 * c' = x + y + c) : VL + s * P + (P * 18446744073709551616) * c' = (Va + x * P) + (Vc + y * P) := by grind
theorem dif_step (VL Va Vc s c c' x y P : Int) (h : VL - P * c = Va - Vc) (e : s - 18446744073709551616 * c' = x - y - c) : VL + s * P - (P * 18446744073709551616) * c' = (Va + x * P) - (Vc + y * P) := by grind

structure Su (B ga gc gs : Nat) (a c L : List Int) (w wr : World) : Prop where
  ha : Blk wr ga .u64 53 a
  hc : Blk wr gc .u64 53 c
  hs : Blk wr gs .u64 53 L
  h1 : B ≤ gs
  h2 : ga < gs
  h3 : gc < gs
  bel : Below B w wr
theorem Su.set {B ga gc gs : Nat} {a c L : List Int} {w wr : World} (h : Su B ga gc gs a c L w wr) (i : Nat) (v : Int) : Su B ga gc gs a c (L.set i v) w (wr.setCell ⟨gs, i, none⟩ (.int .u64 v)) :=
  ⟨h.ha.far (by simp; have := h.h2; omega) _, h.hc.far (by simp; have := h.h3; omega) _, h.hs.set i v, h.h1, h.h2, h.h3, h.bel.setCell h.h1 _⟩
theorem Su.draw {B ga gc gs : Nat} {a c L : List Int} {w wr : World} (h : Su B ga gc gs a c L w wr) (n : Nat) : Su B ga gc gs a c L w (wr.drewN n) :=
  ⟨h.ha.drewN n, h.hc.drewN n, h.hs.drewN n, h.h1, h.h2, h.h3, pw_below_drewN h.bel n⟩

set_option maxRecDepth 100000 in
set_option maxHeartbeats 1000000 in
theorem plus_any (a b : List Int) (w : World) (hla : a.length = 4) (hlb : b.length = 4) (ha : DW a) (hb : DW b) :
    Calls Tryd.prog 61 #[arr a, arr b] w fun e w' =>
      ∃ s q, e = .returned (.tuple #[arr s, .int .u64 q]) ∧ s.length = 4 ∧ DW s ∧ (0 ≤ q ∧ q ≤ 1) ∧ vW s + 18446744073709551616 ^ 4 * q = vW a + vW b ∧ Below w.heap.size w w' := by
  have z53 : (Tryd.prog.info? 53).map (fun i => (i.zero, i.size)) = some (some (.agg ((List.replicate 4 (0 : Int)).map (Value.int .u64)).toArray), 4) := by kernel_rfl
  replace z53 := Go.Lib.hid z53
  have hLa := Go.Lib.hid hla
  have hLb := Go.Lib.hid hlb
  have hA := Go.Lib.hid ha
  have hB := Go.Lib.hid hb
  clear hla hlb ha hb
  go_enter Tryd.func61, Tryd.ntmps61
  go_wp2_with (first
    | (refine ev_boxg (x := .tmp 0) rfl rfl rfl ?_; intro ga w1 h1 b1; change Blk w1 ga .u64 53 a at b1)
    | (refine ev_boxg (x := .tmp 1) rfl rfl rfl ?_; intro gb w2 h2 b2; change Blk w2 gb .u64 53 b at b2)
    | (refine ev_allocg (ty := 53) rfl rfl z53.out ?_; intro gs w3 h3 b3; change Blk w3 gs .u64 53 (List.replicate 4 0) at b3))
  have hO : Hid (∃ L : List Int, L.length = 4 ∧ DW L ∧ vW (L.take 0) + 18446744073709551616 ^ 0 * 0 = vW (a.take 0) + vW (b.take 0) ∧ Su w.heap.size ga gb gs a b L w w3) :=
    Go.Lib.hid ⟨_, by simp, Dig.zeros (by omega) 4, by simp [dL], h3.blk (h2.blk b1), h3.blk b2, b3, by have := h1.le; have := h1.size; have := h2.le; have := h2.size; have := h3.le; omega, by have := h1.size; have := h2.le; have := h2.size; have := h3.le; omega, by have := h2.size; have := h3.le; omega,
      h3.bel (h2.bel (h1.bel (Below.refl _ _) (Nat.le_refl _)) (by have := h1.le; have := h1.size; omega)) (by have := h1.le; have := h1.size; have := h2.le; have := h2.size; omega)⟩
  clear h1 h2 h3 b1 b2 b3
  go_loopw [7, 6, 5] (fun i _ c wr => ∃ (k : Nat) (q : Int), k ≤ 4 ∧ i = .int .i64 k ∧ c = .int .u64 q ∧ (0 ≤ q ∧ q ≤ 1) ∧ Hid (∃ L : List Int, L.length = 4 ∧ DW L ∧ vW (L.take k) + 18446744073709551616 ^ k * q = vW (a.take k) + vW (b.take k) ∧ Su w.heap.size ga gb gs a b L w wr)) (fun i _ _ _ => 4 - (intOf i).toNat)
  case atStart => exact ⟨0, 0, by omega, rfl, rfl, by omega, hO⟩
  case round =>
    obtain ⟨k, q, hk, rfl, rfl, hq, hO⟩ := hrel
    obtain ⟨L, hl, hd, hv, hS⟩ := hO.out
    by_cases hlt : k < 4
    · have c1 := hS.ha.cell k (by rw [hLa.out]; exact hlt)
      have c2 := hS.hc.cell k (by rw [hLb.out]; exact hlt)
      have c3 := hS.hs.cell k (by rw [hl]; exact hlt)
      have f1 := hS.hs.frozen k
      have ilt : (k : Int) < 4 := by omega
      obtain ⟨s, q', hs, hs1, hs2, hs3⟩ := add64_let (el a k) (el b k) q (hA.out.word k) (hB.out.word k) hq
      replace hl := Go.Lib.hid hl
      replace hd := Go.Lib.hid hd
      replace hv := Go.Lib.hid hv
      replace hS := Go.Lib.hid hS
      replace hs3 := Go.Lib.hid hs3
      clear hO
      go_wp2_with fail
      refine region_float (C := fun w' => ∃ n, w' = wr.drewN n)
        [true, true, true, true, true, true, true, true, true, true, true, false, true]
        [false, false, false, false, false, false, false, false, false, false, false, true]
        [false, false, false, false, false, false, false, false, false, false, false, false, false, true, true]
        (by kernel_rfl) (by simp) (by kernel_rfl) ⟨1, rfl⟩ ?_
      simp only [pick_t, pick_f, pick_n]
      repeat quiet_step (fail)
      refine wpQuiet_nil ?_
      refine pList_step fun K hK => ?_
      go_simp
      refine hK _ ?_
      clear hK K
      refine pList_nil ?_
      rintro _ ⟨nq, rfl⟩
      refine nList_step fun K hK => ?_
      go_simp
      refine ⟨undef, _, And.intro rfl rfl, hK _ _ ?_⟩
      clear hK K
      refine nList_step fun K hK => ?_
      go_simp
      refine ⟨_, _, And.intro rfl rfl, hK _ _ ?_⟩
      clear hK K
      refine nList_nil ?_
      go_wp2_with fail
      go_roundw
      case rel =>
        refine ⟨k + 1, q', by omega, by go_num, rfl, hs2, Go.Lib.hid ⟨_, set_len hl.out k s, hd.out.put k s hs1, ?_, (hS.out.draw nq).set k s⟩⟩
        unfold vW
        rw [dL_take, dL_take, dL_take, el_setv _ _ _ (by rw [hl.out]; exact hlt), take_set_past _ _ _ _ (Nat.le_refl _), Int.pow_succ]
        exact sum_step _ _ _ _ _ _ _ _ _ hv.out hs3.out
      case measure => simp [intOf]; omega
    · obtain rfl : k = 4 := by omega
      rw [show ((4 : Nat) : Int) = 4 from rfl]
      rw [List.take_of_length_le (by omega), List.take_of_length_le (by rw [hLa.out]; omega), List.take_of_length_le (by rw [hLb.out]; omega)] at hv
      have hb4 := hS.hs
      have hbel := hS.bel
      have hge := hS.h1
      replace hl := Go.Lib.hid hl
      replace hv := Go.Lib.hid hv
      replace hd := Go.Lib.hid hd
      clear hO hS
      go_wp2_with (first
        | (refine ev_loadarr rfl rfl rfl hb4 Tryd.underlying53 rfl (by rw [hl.out]; kernel_rfl) ?_)
        | (refine ev_storearrg rfl rfl rfl hb4 rfl rfl (by rw [hl.out]; kernel_rfl) ?_; intro w7 h7 b7))
      refine bodyPost_ret (results_blk2 rfl _ _ rfl rfl b7 Tryd.underlying53 rfl (by rw [hl.out]; kernel_rfl)) rfl ⟨L, q, rfl, hl.out, hd.out, hq, hv.out, ?_⟩
      exact h7.bel hbel hbel.size hge
end Go.Proofs.YtamfbmchamgddaaDoor

/-
  Numbers of four words: differences, less.
-/
namespace Go.Proofs.YtamfbmchamgddaaDoor
set_option linter.unusedVariables false
set_option linter.unusedSimpArgs false
open Go.RowKit Go.Proofs.YtamfbmchamgddaaDoorW.PrintWords

set_option maxRecDepth 100000 in
set_option maxHeartbeats 1000000 in
theorem minus_any (a b : List Int) (w : World) (hla : a.length = 4) (hlb : b.length = 4) (ha : DW a) (hb : DW b) :
    Calls Tryd.prog 62 #[arr a, arr b] w fun e w' =>
      ∃ s q, e = .returned (.tuple #[arr s, .int .u64 q]) ∧ s.length = 4 ∧ DW s ∧ (0 ≤ q ∧ q ≤ 1) ∧ vW s - 18446744073709551616 ^ 4 * q = vW a - vW b ∧ Below w.heap.size w w' := by
  have z53 : (Tryd.prog.info? 53).map (fun i => (i.zero, i.size)) = some (some (.agg ((List.replicate 4 (0 : Int)).map (Value.int .u64)).toArray), 4) := by kernel_rfl
  replace z53 := Go.Lib.hid z53
  have hLa := Go.Lib.hid hla
  have hLb := Go.Lib.hid hlb
  have hA := Go.Lib.hid ha
  have hB := Go.Lib.hid hb
  clear hla hlb ha hb
  go_enter Tryd.func62, Tryd.ntmps62
  go_wp2_with (first
    | (refine ev_boxg (x := .tmp 0) rfl rfl rfl ?_; intro ga w1 h1 b1; change Blk w1 ga .u64 53 a at b1)
    | (refine ev_boxg (x := .tmp 1) rfl rfl rfl ?_; intro gb w2 h2 b2; change Blk w2 gb .u64 53 b at b2)
    | (refine ev_allocg (ty := 53) rfl rfl z53.out ?_; intro gs w3 h3 b3; change Blk w3 gs .u64 53 (List.replicate 4 0) at b3))
  have hO : Hid (∃ L : List Int, L.length = 4 ∧ DW L ∧ vW (L.take 0) - 18446744073709551616 ^ 0 * 0 = vW (a.take 0) - vW (b.take 0) ∧ Su w.heap.size ga gb gs a b L w w3) :=
    Go.Lib.hid ⟨_, by simp, Dig.zeros (by omega) 4, by simp [dL], h3.blk (h2.blk b1), h3.blk b2, b3, by have := h1.le; have := h1.size; have := h2.le; have := h2.size; have := h3.le; omega, by have := h1.size; have := h2.le; have := h2.size; have := h3.le; omega, by have := h2.size; have := h3.le; omega,
      h3.bel (h2.bel (h1.bel (Below.refl _ _) (Nat.le_refl _)) (by have := h1.le; have := h1.size; omega)) (by have := h1.le; have := h1.size; have := h2.le; have := h2.size; omega)⟩
  clear h1 h2 h3 b1 b2 b3
  go_loopw [7, 6, 5] (fun i _ c wr => ∃ (k : Nat) (q : Int), k ≤ 4 ∧ i = .int .i64 k ∧ c = .int .u64 q ∧ (0 ≤ q ∧ q ≤ 1) ∧ Hid (∃ L : List Int, L.length = 4 ∧ DW L ∧ vW (L.take k) - 18446744073709551616 ^ k * q = vW (a.take k) - vW (b.take k) ∧ Su w.heap.size ga gb gs a b L w wr)) (fun i _ _ _ => 4 - (intOf i).toNat)
  case atStart => exact ⟨0, 0, by omega, rfl, rfl, by omega, hO⟩
  case round =>
    obtain ⟨k, q, hk, rfl, rfl, hq, hO⟩ := hrel
    obtain ⟨L, hl, hd, hv, hS⟩ := hO.out
    by_cases hlt : k < 4
    · have c1 := hS.ha.cell k (by rw [hLa.out]; exact hlt)
      have c2 := hS.hc.cell k (by rw [hLb.out]; exact hlt)
      have c3 := hS.hs.cell k (by rw [hl]; exact hlt)
      have f1 := hS.hs.frozen k
      have ilt : (k : Int) < 4 := by omega
      obtain ⟨s, q', hs, hs1, hs2, hs3⟩ := sub64_let (el a k) (el b k) q (hA.out.word k) (hB.out.word k) hq
      replace hl := Go.Lib.hid hl
      replace hd := Go.Lib.hid hd
      replace hv := Go.Lib.hid hv
      replace hS := Go.Lib.hid hS
      replace hs3 := Go.Lib.hid hs3
      clear hO
      go_wp2_with fail
      refine region_float (C := fun w' => ∃ n, w' = wr.drewN n)
        [true, true, true, true, true, true, true, true, true, true, true, false, true]
        [false, false, false, false, false, false, false, false, false, false, false, true]
        [false, false, false, false, false, false, false, false, false, false, false, false, false, true, true]
        (by kernel_rfl) (by simp) (by kernel_rfl) ⟨1, rfl⟩ ?_
      simp only [pick_t, pick_f, pick_n]
      repeat quiet_step (fail)
      refine wpQuiet_nil ?_
      refine pList_step fun K hK => ?_
      go_simp
      refine hK _ ?_
      clear hK K
      refine pList_nil ?_
      rintro _ ⟨nq, rfl⟩
      refine nList_step fun K hK => ?_
      go_simp
      refine ⟨undef, _, And.intro rfl rfl, hK _ _ ?_⟩
      clear hK K
      refine nList_step fun K hK => ?_
      go_simp
      refine ⟨_, _, And.intro rfl rfl, hK _ _ ?_⟩
      clear hK K
      refine nList_nil ?_
      go_wp2_with fail
      go_roundw
      case rel =>
        refine ⟨k + 1, q', by omega, by go_num, rfl, hs2, Go.Lib.hid ⟨_, set_len hl.out k s, hd.out.put k s hs1, ?_, (hS.out.draw nq).set k s⟩⟩
        unfold vW
        rw [dL_take, dL_take, dL_take, el_setv _ _ _ (by rw [hl.out]; exact hlt), take_set_past _ _ _ _ (Nat.le_refl _), Int.pow_succ]
        exact dif_step _ _ _ _ _ _ _ _ _ hv.out hs3.out
      case measure => simp [intOf]; omega
    · obtain rfl : k = 4 := by omega
      rw [show ((4 : Nat) : Int) = 4 from rfl]
      rw [List.take_of_length_le (by omega), List.take_of_length_le (by rw [hLa.out]; omega), List.take_of_length_le (by rw [hLb.out]; omega)] at hv
      have hb4 := hS.hs
      have hbel := hS.bel
      have hge := hS.h1
      replace hl := Go.Lib.hid hl
      replace hv := Go.Lib.hid hv
      replace hd := Go.Lib.hid hd
      clear hO hS
      go_wp2_with (first
        | (refine ev_loadarr rfl rfl rfl hb4 Tryd.underlying53 rfl (by rw [hl.out]; kernel_rfl) ?_)
        | (refine ev_storearrg rfl rfl rfl hb4 rfl rfl (by rw [hl.out]; kernel_rfl) ?_; intro w7 h7 b7))
      refine bodyPost_ret (results_blk2 rfl _ _ rfl rfl b7 Tryd.underlying53 rfl (by rw [hl.out]; kernel_rfl)) rfl ⟨L, q, rfl, hl.out, hd.out, hq, hv.out, ?_⟩
      exact h7.bel hbel hbel.size hge

set_option maxRecDepth 100000 in
theorem less_any (a b : List Int) (w : World) (hla : a.length = 4) (hlb : b.length = 4) (ha : DW a) (hb : DW b) :
    Calls Tryd.prog 58 #[arr a, arr b] w fun e w' => e = .returned (.bool (decide (vW a < vW b))) ∧ Below w.heap.size w w' := by
  have z53 : (Tryd.prog.info? 53).map (fun i => (i.zero, i.size)) = some (some (.agg ((List.replicate 4 (0 : Int)).map (Value.int .u64)).toArray), 4) := by kernel_rfl
  replace z53 := Go.Lib.hid z53
  have hr := vW_range ha
  have hr2 := vW_range hb
  rw [hla] at hr
  rw [hlb] at hr2
  have hra := Go.Lib.hid hr
  have hrb := Go.Lib.hid hr2
  have hcall := Go.Lib.hid (fun w => minus_any a b w hla hlb ha hb)
  have hLa := Go.Lib.hid hla
  have hLb := Go.Lib.hid hlb
  clear hr hr2 hla hlb ha hb
  go_enter Tryd.func58, Tryd.ntmps58
  go_wp2_with (first
    | (refine ev_boxg (x := .tmp 0) rfl rfl rfl ?_; intro ga w1 h1 b1; change Blk w1 ga .u64 53 a at b1)
    | (refine ev_boxg (x := .tmp 1) rfl rfl rfl ?_; intro gb w2 h2 b2; change Blk w2 gb .u64 53 b at b2; replace b1 := h2.blk b1)
    | (refine ev_loadarr (x := .tmp 2) rfl rfl rfl b1 Tryd.underlying53 rfl (by rw [hLa.out]; kernel_rfl) ?_)
    | (refine ev_loadarr (x := .tmp 3) rfl rfl rfl b2 Tryd.underlying53 rfl (by rw [hLb.out]; kernel_rfl) ?_)
    | (go_at_call 62; refine (hcall.out _).mono ?_; rintro e w3 ⟨s, q, rfl, hls, hds, hq, hv, hb3⟩
       replace hls := Go.Lib.hid hls
       replace hv := Go.Lib.hid hv
       replace hds := Go.Lib.hid hds)
    | (refine ev_allocg (ty := 53) rfl rfl z53.out ?_; intro gd w4 h4 b4; change Blk w4 gd .u64 53 (List.replicate 4 0) at b4)
    | (refine ev_storearrg rfl rfl rfl b4 rfl (by rw [hls.out]; simp) (by rw [hls.out]; kernel_rfl) ?_; intro w5 h5 b5))
  go_ret
  have s1 := h1.size
  have s2 := h2.size
  have s3 := hb3.size
  have s4 := h4.size
  have e1 := h1.le
  have e2 := h2.le
  have e4 := h4.le
  refine ⟨?_, h5.bel (h4.bel (below_then (h2.bel (h1.bel (Below.refl _ _) (Nat.le_refl _)) (by omega)) (by omega) hb3) (by omega)) (by omega) (by omega)⟩
  have hr := vW_range hds.out
  rw [hls.out] at hr
  have hv := hv.out
  have r1 := hra.out
  have r2 := hrb.out
  have hbq : ((q == 1) : Bool) = decide (vW a < vW b) := by
    rw [Bool.eq_iff_iff, beq_iff_eq, decide_eq_true_eq]
    simp only [Int.reducePow] at *
    obtain rfl | rfl : q = 0 ∨ q = 1 := by omega
    · omega
    · omega
  simp [hbq]
end Go.Proofs.YtamfbmchamgddaaDoor

/-
  A region that draws its order, some of whose operations that turn the world wait for none of the others: one walk for each order that these may come in.
-/
namespace Go.Proofs.YtamfbmchamgddaaDoor
set_option linter.unusedVariables false
set_option linter.unusedSimpArgs false
open Go
section
variable {P : Program} {ops : Array Oper} {md : Region.Mode} {T : Type} {f : T → World}

def Pair2 (md : Region.Mode) (ops : Array Oper) (x y : Nat × Bool × Oper) : Prop := x.1 ≠ y.1 ∧ (Dep md ops y.1 x.1 ∨ x.2.2.apart ops y.2.2 = true ∨ (x.2.1 && y.2.1) = true)
structure Left2 (md : Region.Mode) (ops : Array Oper) (m : Nat → Bool) (listed : Array Bool) (W : List (Nat × Bool × Oper)) : Prop where
  mem : ∀ i, listed.getD i true = false ↔ ∃ x ∈ W, x.1 = i
  valid : ∀ x ∈ W, ops[x.1]? = some x.2.2 ∧ x.2.1 = m x.1
  pairs : W.Pairwise (Pair2 md ops)
def effs (W : List (Nat × Bool × Oper)) : List Nat := (W.filter (fun x => x.2.1)).map (fun x => x.1)
def without (i : Nat) (W : List (Nat × Bool × Oper)) : List (Nat × Bool × Oper) := W.filter (fun x => x.1 != i)

theorem without_split {i : Nat} {x : Nat × Bool × Oper} {pre post : List (Nat × Bool × Oper)} (hx : x.1 = i) (hp : (pre ++ x :: post).Pairwise (Pair2 md ops)) : without i (pre ++ x :: post) = pre ++ post := by
  have h := List.pairwise_append.1 hp
  unfold without
  rw [List.filter_append, List.filter_cons_of_neg (by simp [hx])]
  congr 1
  · rw [List.filter_eq_self]
    intro y hy
    have := (h.2.2 y hy x (List.mem_cons_self ..)).1
    simp only [bne_iff_ne, ne_eq]
    omega
  · rw [List.filter_eq_self]
    intro y hy
    have := (List.rel_of_pairwise_cons h.2.1 hy).1
    simp only [bne_iff_ne, ne_eq]
    omega

theorem first_pure {i : Nat} {b : Bool} {o : Oper} {pre post : List (Nat × Bool × Oper)} (hp : (pre ++ (i, b, o) :: post).Pairwise (Pair2 md ops)) (hh : (effs (pre ++ (i, b, o) :: post)).head? = some i) : ∀ y ∈ pre, y.2.1 = false := fun y hy => by
  cases hb : y.2.1 with
  | false => rfl
  | true =>
    exfalso
    have hpf : pre.filter (fun x => x.2.1) ≠ [] := fun h0 => by
      have : y ∈ pre.filter (fun x => x.2.1) := List.mem_filter.2 ⟨hy, hb⟩
      rw [h0] at this
      cases this
    unfold effs at hh
    rw [List.filter_append] at hh
    cases hq : pre.filter (fun x => x.2.1) with
    | nil => exact hpf hq
    | cons z zs =>
      rw [hq] at hh
      simp at hh
      have hz : z ∈ pre := (List.mem_filter.1 (by rw [hq]; exact List.mem_cons_self .. : z ∈ pre.filter (fun x => x.2.1))).1
      have := ((List.pairwise_append.1 hp).2.2 z hz (i, b, o) (List.mem_cons_self ..)).1
      exact this hh

def goodB (dep : Nat → Nat → Bool) : Nat → List (List Nat) → Bool
  | 0, Es => Es.all (fun E => E.isEmpty)
  | n + 1, Es => match Es with
    | [] => false
    | E0 :: r => E0.all fun i => (E0.any fun j => (j != i) && dep i j) || (match (E0 :: r).filter (fun E => E.head? == some i) with | [E] => goodB dep n [E.tail] | _ => false)

theorem wpAny_of_wlks [Nonempty T] (hsel : Region.noSelect ops = true) (hback : ∀ i o, ops[i]? = some o → ∀ e ∈ o.after, Region.binds md e = true → e.on < i) {m : Nat → Bool} {dep : Nat → Nat → Bool} (hdep : ∀ i j, dep i j = true → j ≠ i → Dep md ops i j)
    {Q : Act → World → Prop} {Q' : Exit → Act → World → Prop} (hQ : ∀ a w, Q a w → Q' .normal a w) :
    ∀ (n ne : Nat) (Ws : List (List (Nat × Bool × Oper))) (listed : Array Bool) (a : Act) (w : World), listed.size = ops.size → Closed md ops listed → (∀ W ∈ Ws, W.length = n ∧ Left2 md ops m listed W ∧ (effs W).length = ne) → Ws ≠ [] →
      goodB dep ne (Ws.map effs) = true → (∃ s, w = f s) → (∀ W ∈ Ws, wlk P ops f Q (W.map (·.2)) a w) → wpAny P md ops Q' n listed a w
  | 0, ne, Ws, listed, a, w, hsz, hc, hl, hne, hg, hw, h => by
    obtain ⟨W, hW⟩ := List.exists_mem_of_ne_nil _ hne
    obtain ⟨h1, h2, _⟩ := hl W hW
    obtain rfl : W = [] := List.eq_nil_of_length_eq_zero h1
    refine ⟨?_, hQ _ _ (h _ hW)⟩
    rw [List.eq_nil_iff_forall_not_mem]
    intro i hi
    obtain ⟨x, hx, _⟩ := (h2.mem i).1 (mem_ready.1 hi).1
    cases hx
  | n + 1, ne, Ws, listed, a, w, hsz, hc, hl, hne, hg, hw, h => by
    obtain ⟨W0, hW0⟩ := List.exists_mem_of_ne_nil _ hne
    refine ⟨fun h0 => ?_, fun i hi => ?_⟩
    · exfalso
      obtain ⟨h1, h2, _⟩ := hl W0 hW0
      -- the least one that is left may come up
      have hex : ∀ d i, i ≤ d → listed.getD i true = false → ∃ j, j ∈ Region.ready md ops listed := by
        intro d
        induction d with
        | zero =>
          intro i hi hf
          obtain ⟨x, hx, rfl⟩ := (h2.mem i).1 hf
          exact ⟨x.1, mem_ready.2 ⟨hf, x.2.2, (h2.valid x hx).1, fun e he hb => by
            have := hback _ _ (h2.valid x hx).1 e he hb
            omega⟩⟩
        | succ d ih =>
          intro i hi hf
          obtain ⟨x, hx, rfl⟩ := (h2.mem i).1 hf
          by_cases hall : ∀ e ∈ x.2.2.after, Region.binds md e = true → listed.getD e.on false = true
          · exact ⟨x.1, mem_ready.2 ⟨hf, x.2.2, (h2.valid x hx).1, hall⟩⟩
          · simp only [Classical.not_forall] at hall
            obtain ⟨e, he, hb, hn⟩ := hall
            have hlt := hback _ _ (h2.valid x hx).1 e he hb
            have hxs : x.1 < ops.size := (Array.getElem?_eq_some_iff.1 (h2.valid x hx).1).1
            refine ih e.on (by omega) ?_
            cases hq : listed.getD e.on true with
            | false => rfl
            | true => exact absurd (getD_tf (by rw [hsz]; omega) (by rw [hq]; simp)) hn
      cases W0 with
      | nil => simp at h1
      | cons x r =>
        obtain ⟨j, hj⟩ := hex x.1 x.1 (Nat.le_refl _) ((h2.mem x.1).2 ⟨x, List.mem_cons_self .., rfl⟩)
        rw [h0] at hj
        cases hj
    · obtain ⟨hun, oi, hoi, hall⟩ := mem_ready.1 hi
      have his : i < listed.size := by rw [hsz]; exact (Array.getElem?_eq_some_iff.1 hoi).1
      have hc' : Closed md ops (listed.setIfInBounds i true) := fun j oj hj hlj e he hb => by
        by_cases hji : i = j
        · subst hji
          obtain rfl := Option.some.inj (hoi.symm.trans hj)
          exact getD_set_true (hall e he hb)
        · rw [getD_set_ne false hji] at hlj
          exact getD_set_true (hc j oj hj hlj e he hb)
      -- each walk that is left, without i
      have hstep : ∀ W ∈ Ws, ∃ pre post, W = pre ++ (i, m i, oi) :: post ∧ without i W = pre ++ post ∧ Left2 md ops m (listed.setIfInBounds i true) (without i W) ∧ (without i W).length = n ∧ (∀ y ∈ pre, ¬ Dep md ops i y.1) := fun W hW => by
        obtain ⟨h1, h2, _⟩ := hl W hW
        obtain ⟨x, hx, hxi⟩ := (h2.mem i).1 hun
        obtain ⟨pre, post, rfl⟩ := List.append_of_mem hx
        have hxe : x = (i, m i, oi) := by
          obtain ⟨x1, x2, x3⟩ := x
          have hv := h2.valid _ hx
          simp only at hxi hv
          subst hxi
          rw [hoi] at hv
          rw [hv.2, ← Option.some.inj hv.1]
        have hwo := without_split hxi h2.pairs
        subst hxe
        refine ⟨pre, post, rfl, hwo, ?_, ?_, fun y hy hd => ?_⟩
        · rw [hwo]
          have hsub : (pre ++ post).Sublist (pre ++ (i, m i, oi) :: post) := List.Sublist.append (List.Sublist.refl _) (List.sublist_cons_self ..)
          have hpw := List.pairwise_append.1 h2.pairs
          refine ⟨fun k => ⟨fun hk => ?_, fun hk => ?_⟩, fun z hz => h2.valid z (hsub.subset hz), h2.pairs.sublist hsub⟩
          · by_cases hki : i = k
            · subst hki
              rw [Array.getD_eq_getD_getElem?, Array.getElem?_setIfInBounds_self_of_lt his] at hk
              cases hk
            · rw [getD_set_ne true hki] at hk
              obtain ⟨z, hz, he⟩ := (h2.mem k).1 hk
              refine ⟨z, ?_, he⟩
              rcases List.mem_append.1 hz with hz | hz
              · exact List.mem_append_left _ hz
              · rcases List.mem_cons.1 hz with rfl | hz
                · exact absurd he hki
                · exact List.mem_append_right _ hz
          · obtain ⟨z, hz, he⟩ := hk
            have hki : i ≠ k := fun e => by
              rcases List.mem_append.1 hz with hz | hz
              · have := (hpw.2.2 z hz (i, m i, oi) (List.mem_cons_self ..)).1
                exact this (by rw [he, e])
              · have := (List.rel_of_pairwise_cons hpw.2.1 hz).1
                exact this (by rw [he, e])
            rw [getD_set_ne true hki]
            exact (h2.mem k).2 ⟨z, hsub.subset hz, he⟩
        · rw [hwo]; simp at h1 ⊢; omega
        · exact absurd hi (hd.not_ready hc (getD_ft ((h2.mem y.1).2 ⟨y, List.mem_append_left _ hy, rfl⟩)))
      have hfront : ∀ W ∈ Ws, (m i = true → (effs W).head? = some i) → stepW P ops f (m i) oi (wlk P ops f Q ((without i W).map (·.2))) a w := fun W hW hhead => by
        obtain ⟨pre, post, hWe, hwo, hl2, _, hnd⟩ := hstep W hW
        obtain ⟨_, h2, _⟩ := hl W hW
        have h3 := h W hW
        rw [hWe, List.map_append, List.map_cons] at h3
        rw [hwo, List.map_append]
        refine front hsel (fun cs b => Region.noSelect_spec hsel _ _ cs b hoi) _ a w (fun y hy => ?_) h3
        obtain ⟨z, hz, rfl⟩ := List.mem_map.1 hy
        rw [hWe] at h2
        have hpz := ((List.pairwise_append.1 h2.pairs).2.2 z hz (i, m i, oi) (List.mem_cons_self ..)).2
        have hzv := (h2.valid z (List.mem_append_left _ hz)).1
        have hzf : (z.2.1 && m i) = false := by
          cases hm2 : m i with
          | false => simp
          | true =>
            have hh := hhead hm2
            rw [hWe] at hh
            rw [first_pure h2.pairs hh z hz]
            rfl
        refine ⟨?_, hzf, fun cs b => Region.noSelect_spec hsel _ _ cs b hzv⟩
        rcases hpz with hd | hd | hd
        · exact absurd hd (hnd z hz)
        · exact hd
        · rw [hzf] at hd; cases hd
      by_cases hmi : m i = true
      · -- an operation that turns the world: one walk alone begins with it
        obtain ⟨pre0, post0, hW0e, hwo0, hl20, hlen0, hnd0⟩ := hstep W0 hW0
        obtain ⟨_, h20, hne0⟩ := hl W0 hW0
        have hi0 : ∀ W ∈ Ws, i ∈ effs W := fun W hW => by
          obtain ⟨pre, post, hWe, _⟩ := hstep W hW
          rw [hWe]
          unfold effs
          simp [hmi]
        cases Ws with
        | nil => cases hW0
        | cons W1 r =>
          obtain ⟨ne', rfl⟩ : ∃ ne', ne = ne' + 1 := by
            have h1 := (hl W1 (List.mem_cons_self ..)).2.2
            have h2 := List.length_pos_of_mem (hi0 W1 (List.mem_cons_self ..))
            exact ⟨ne - 1, by omega⟩
          simp only [List.map_cons, goodB, List.all_eq_true, Bool.or_eq_true, List.any_eq_true, Bool.and_eq_true, bne_iff_ne, ne_eq] at hg
          rcases hg i (hi0 W1 (List.mem_cons_self ..)) with ⟨j, hj, hji, hd⟩ | hg'
          · exfalso
            obtain ⟨pre, post, hWe, _, _, _, _⟩ := hstep W1 (List.mem_cons_self ..)
            obtain ⟨_, h2, _⟩ := hl W1 (List.mem_cons_self ..)
            unfold effs at hj
            obtain ⟨z, hz, rfl⟩ := List.mem_map.1 hj
            have hz' := (List.mem_filter.1 hz).1
            exact absurd hi ((hdep i z.1 hd hji).not_ready hc (getD_ft ((h2.mem z.1).2 ⟨z, hz', rfl⟩)))
          · split at hg'
            · rename_i E hE
              have hEm : E ∈ (effs W1 :: r.map effs).filter (fun E => E.head? == some i) := by rw [hE]; exact List.mem_singleton.2 rfl
              obtain ⟨hE1, hE2⟩ := List.mem_filter.1 hEm
              have : ∃ W ∈ W1 :: r, effs W = E := by
                rcases List.mem_cons.1 hE1 with h | h
                · exact ⟨W1, List.mem_cons_self .., h.symm⟩
                · obtain ⟨W, hW, he⟩ := List.mem_map.1 h
                  exact ⟨W, List.mem_cons_of_mem _ hW, he⟩
              obtain ⟨W, hW, hWE⟩ := this
              have hhead : (effs W).head? = some i := by rw [hWE]; simpa using hE2
              have h1 := hfront W hW (fun _ => hhead)
              obtain ⟨pre, post, hWe, hwo, hl2, hlen, _⟩ := hstep W hW
              have hee : effs (without i W) = (effs W).tail := by
                have hnp : ∀ y ∈ pre, y.2.1 = false := by
                  obtain ⟨_, h2, _⟩ := hl W hW
                  rw [hWe] at h2 hhead
                  exact first_pure h2.pairs hhead
                have hpf : pre.filter (fun x => x.2.1) = [] := by
                  rw [List.filter_eq_nil_iff]
                  intro y hy
                  rw [hnp y hy]
                  simp
                rw [hwo, hWe]
                unfold effs
                rw [List.filter_append, List.filter_append, hpf, List.filter_cons_of_pos (by simpa using hmi)]
                simp
              have hn1 := (hl W hW).2.2
              have IH := fun (a' : Act) (w' : World) (hw' : ∃ s, w' = f s) (hh : wlk P ops f Q ((without i W).map (·.2)) a' w') => wpAny_of_wlks hsel hback hdep hQ n ne' [without i W] (listed.setIfInBounds i true) a' w' (by simp [hsz]) hc' (fun W' hW' => by
                obtain rfl := List.mem_singleton.1 hW'
                exact ⟨hlen, hl2, by rw [hee, List.length_tail]; omega⟩) (by simp) (by rw [List.map_singleton, hee, hWE]; exact hg') hw' (fun W' hW' => by
                obtain rfl := List.mem_singleton.1 hW'
                exact hh)
              unfold wpOp
              simp only [hoi]
              unfold stepW at h1
              split
              · rename_i hwt
                rw [if_pos hwt, hmi] at h1
                refine .inl ?_
                have h2 := Oper.wp_mono (fun a' w' hh => IH a' w' hh.1 hh.2) h1
                unfold Oper.wp at h2 ⊢
                generalize (execOp a.eval oi).run P w = rr at h2 ⊢
                cases rr with
                | ok nn w' =>
                  cases nn <;> simp only [Oper.upon] at h2 ⊢
                  case value u => exact h2
                  case skip => exact h2
                  case defer x => exact h2
                  case enter g args =>
                    refine Calls.mono h2 (fun e w'' he => ?_)
                    cases e with
                    | returned v' => exact he
                    | panicked c => exact he.elim
                    | outgrown => obtain ⟨_, _, hh⟩ := he; exact hh.elim
                  case row rw args => exact h2
                | halt x w' => cases x <;> simp only [Oper.upon] at h2
              · rename_i hwt
                rw [if_neg hwt] at h1
                exact IH _ _ hw h1
            · cases hg'
      · -- a quiet one: every walk may begin with it
        have hmf : m i = false := by simpa using hmi
        have hall2 : ∀ W ∈ Ws, stepW P ops f false oi (wlk P ops f Q ((without i W).map (·.2))) a w := fun W hW => by
          have := hfront W hW (fun h => absurd h hmi)
          rwa [hmf] at this
        have hee : ∀ W ∈ Ws, effs (without i W) = effs W := fun W hW => by
          obtain ⟨pre, post, hWe, hwo, _⟩ := hstep W hW
          rw [hwo, hWe]
          unfold effs
          rw [List.filter_append, List.filter_append, List.filter_cons_of_neg (by simp [hmf])]
        have IH := fun (a' : Act) (w' : World) (hw' : ∃ s, w' = f s) (hh : ∀ W' ∈ Ws.map (without i), wlk P ops f Q (W'.map (·.2)) a' w') => wpAny_of_wlks hsel hback hdep hQ n ne (Ws.map (without i)) (listed.setIfInBounds i true) a' w' (by simp [hsz]) hc' (fun W' hW' => by
          obtain ⟨W, hW, rfl⟩ := List.mem_map.1 hW'
          obtain ⟨_, _, _, _, hl2, hlen, _⟩ := hstep W hW
          exact ⟨hlen, hl2, by rw [hee W hW]; exact (hl W hW).2.2⟩) (by simpa using hne) (by
          rw [List.map_map]
          have : Ws.map (effs ∘ without i) = Ws.map effs := List.map_congr_left (fun W hW => hee W hW)
          rw [this]
          exact hg) hw' hh
        unfold wpOp
        simp only [hoi]
        split
        · rename_i hwt
          refine .inl ?_
          have h0 := hall2 W0 hW0
          unfold stepW at h0
          rw [if_pos hwt] at h0
          obtain ⟨v, hv, _⟩ := h0
          obtain ⟨s, rfl⟩ := hw
          unfold Oper.wp
          rw [hv s]
          refine IH _ _ ⟨s, rfl⟩ (fun W' hW' => ?_)
          obtain ⟨W, hW, rfl⟩ := List.mem_map.1 hW'
          have h1 := hall2 W hW
          unfold stepW at h1
          rw [if_pos hwt] at h1
          obtain ⟨v', hv', h1⟩ := h1
          have e := hv s
          rw [hv' s] at e
          obtain rfl : v' = v := by injection e with e; injection e
          exact h1
        · rename_i hwt
          refine IH _ _ hw (fun W' hW' => ?_)
          obtain ⟨W, hW, rfl⟩ := List.mem_map.1 hW'
          have h1 := hall2 W hW
          unfold stepW at h1
          rw [if_neg hwt] at h1
          exact h1

/-! ### the check -/
def items (m : List Bool) (l : List Oper) (p : List Nat) : List (Nat × Bool × Oper) := p.filterMap fun i => (l[i]?).map fun o => (i, m.getD i false, o)
def pairs2B (md : Region.Mode) (ops : Array Oper) : List (Nat × Bool × Oper) → Bool
  | [] => true
  | x :: r => (let R := reach md ops x.1 (List.range ops.size) [x.1]; r.all fun y => x.1 != y.1 && (R.contains y.1 || (x.2.2.apart ops y.2.2 || (x.2.1 && y.2.1)))) && pairs2B md ops r
theorem pairs2B_spec : ∀ (l : List (Nat × Bool × Oper)), pairs2B md ops l = true → l.Pairwise (Pair2 md ops)
  | [], _ => List.Pairwise.nil
  | x :: r, h => by
    simp only [pairs2B, Bool.and_eq_true, List.all_eq_true, Bool.or_eq_true, List.contains_iff_mem, bne_iff_ne, ne_eq] at h
    refine List.Pairwise.cons (fun y hy => ?_) (pairs2B_spec r h.2)
    obtain ⟨h1, h2⟩ := h.1 y hy
    refine ⟨h1, ?_⟩
    rcases h2 with h2 | h2
    · left
      rcases reach_dep x.1 _ _ (fun k hk => .inl (by simpa using hk)) _ h2 with he | hd
      · exact absurd he.symm h1
      · exact hd
    · exact .inr (h2.imp id (fun h => by rw [h.1, h.2]; rfl))
def depB (md : Region.Mode) (ops : Array Oper) (i j : Nat) : Bool := (reach md ops j (List.range ops.size) [j]).contains i
theorem depB_spec (i j : Nat) (h : depB md ops i j = true) (hne : j ≠ i) : Dep md ops i j := by
  unfold depB at h
  rw [List.contains_iff_mem] at h
  rcases reach_dep j _ _ (fun k hk => .inl (by simpa using hk)) _ h with he | hd
  · exact absurd he.symm hne
  · exact hd
def eff2B (md : Region.Mode) (m : List Bool) (l : List Oper) (ps : List (List Nat)) : Bool :=
  Region.noSelect l.toArray && backB md (number m 0 l) && !ps.isEmpty &&
  ps.all (fun p => decide ((items m l p).length = l.length) && (List.range l.length).all (fun i => p.contains i) && pairs2B md l.toArray (items m l p)) &&
  goodB (depB md l.toArray) ((effs (items m l (ps.headD []))).length) (ps.map (fun p => effs (items m l p))) && ps.all (fun p => decide ((effs (items m l p)).length = (effs (items m l (ps.headD []))).length))
theorem items_len (m : List Bool) (l : List Oper) : ∀ p : List Nat, (∀ i ∈ p, i < l.length) → (items m l p).length = p.length
  | [], _ => rfl
  | i :: p, h => by
    have hi := h i (List.mem_cons_self ..)
    have ih := items_len m l p (fun j hj => h j (List.mem_cons_of_mem _ hj))
    unfold items at *
    rw [List.filterMap_cons, List.getElem?_eq_getElem hi]
    simpa using ih
theorem items_mem {m : List Bool} {l : List Oper} {p : List Nat} {x : Nat × Bool × Oper} (h : x ∈ items m l p) : x.1 ∈ p ∧ l[x.1]? = some x.2.2 ∧ x.2.1 = m.getD x.1 false := by
  unfold items at h
  obtain ⟨i, hi, he⟩ := List.mem_filterMap.1 h
  obtain ⟨o, ho, rfl⟩ := Option.map_eq_some_iff.1 he
  exact ⟨hi, ho, rfl⟩
theorem items_has {m : List Bool} {l : List Oper} {p : List Nat} {i : Nat} (h : i ∈ p) (hl : i < l.length) : ∃ x ∈ items m l p, x.1 = i :=
  ⟨(i, m.getD i false, l[i]), List.mem_filterMap.2 ⟨i, h, by simp [List.getElem?_eq_getElem hl]⟩, rfl⟩

def walks (m : List Bool) (l : List Oper) (p : List Nat) : List (Bool × Oper) := p.filterMap fun i => (l[i]?).map fun o => (m.getD i false, o)
theorem walks_items (m : List Bool) (l : List Oper) (p : List Nat) : (items m l p).map (·.2) = walks m l p := by
  unfold items walks
  rw [List.map_filterMap]
  congr 1
  funext i
  cases l[i]? <;> rfl

/-- THE LAW. m: which operations turn the world; ps: the orders that are walked. -/
theorem region_effs [Nonempty T] {id : Nat} {Q : Exit → Act → World → Prop} {a : Act} {w : World} {l : List Oper} (f : T → World) (m : List Bool) (ps : List (List Nat)) (hm : P.follows .mixedOrders = true)
    (hB : eff2B .any m l ps = true) (hC : ∃ s, w.drew = f s)
    (h : ∀ p ∈ ps, wlk P l.toArray f (fun a w => Q .normal a w) (walks m l p) a w.drew) : (Code.region id l.toArray true).wp P Q a w := by
  simp only [eff2B, Bool.and_eq_true, List.all_eq_true, decide_eq_true_eq, Bool.not_eq_true', List.isEmpty_eq_false_iff] at hB
  obtain ⟨⟨⟨⟨⟨hsel, hbk⟩, hne⟩, hps⟩, hgood⟩, hlen⟩ := hB
  refine wp_region_any hm ?_
  have hback : ∀ i o, l.toArray[i]? = some o → ∀ e ∈ o.after, Region.binds .any e = true → e.on < i := fun i o hi e he hb => by
    have hi' : i < l.length := by have := (Array.getElem?_eq_some_iff.1 hi).1; simpa using this
    obtain ⟨x, hx, rfl⟩ := number_has m 0 l i (Nat.zero_le _) (by omega)
    have hval : l.toArray[x.1]? = some x.2.2 := by simpa using (number_mem m 0 l x hx).2
    obtain rfl := Option.some.inj (hval.symm.trans hi)
    simp only [backB, List.all_eq_true, Array.all_eq_true_iff_forall_mem, Bool.or_eq_true, Bool.not_eq_true', decide_eq_true_eq] at hbk
    rcases hbk x hx e he with h1 | h1
    · rw [hb] at h1; cases h1
    · exact h1
  have hcl : Closed .any l.toArray (Array.replicate l.toArray.size false) := fun j oj hj hl => by
    have : (Array.replicate l.toArray.size false).getD j false = false := by unfold Array.getD; split <;> simp
    rw [this] at hl
    cases hl
  refine wpAny_of_wlks (P := P) (f := f) (m := fun i => m.getD i false) hsel hback (dep := depB .any l.toArray) (fun i j h1 h2 => depB_spec i j h1 h2) (Q' := Q) (fun a w hh => hh) l.toArray.size _ (ps.map (items m l)) _ a w.drew (by simp) hcl (fun W hW => ?_) (by simpa using hne) (by rw [List.map_map]; exact hgood) hC (fun W hW => ?_)
  · obtain ⟨p, hp, rfl⟩ := List.mem_map.1 hW
    obtain ⟨⟨hpl, hpr⟩, hpp⟩ := hps p hp
    have hin : ∀ i, i < l.length → i ∈ p := fun i hi => by
      have := hpr i (List.mem_range.2 hi)
      rwa [List.contains_iff_mem] at this
    -- p has no others
    have hpair := pairs2B_spec _ hpp
    have hnd : (items m l p).length = l.length := hpl
    refine ⟨by rw [hnd]; simp, ⟨fun i => ⟨fun hi => ?_, fun hi => ?_⟩, fun x hx => ?_, hpair⟩, hlen p hp⟩
    · refine items_has (hin i ?_) ?_
      all_goals
        unfold Array.getD at hi
        split at hi
        · rename_i hlt; simpa using hlt
        · cases hi
    · obtain ⟨x, hx, rfl⟩ := hi
      have hlt := (List.getElem?_eq_some_iff.1 (items_mem hx).2.1).1
      unfold Array.getD
      rw [dif_pos (by simpa using hlt)]
      simp
    · have := items_mem hx
      exact ⟨by simpa using this.2.1, this.2.2⟩
  · obtain ⟨p, hp, rfl⟩ := List.mem_map.1 hW
    rw [walks_items]
    exact h p hp
end
end Go.Proofs.YtamfbmchamgddaaDoor

/-
  The modulus in memory; a sum modulo it.
-/
namespace Go.Proofs.YtamfbmchamgddaaDoor
set_option linter.unusedVariables false
set_option linter.unusedSimpArgs false
open Go.RowKit Go.Proofs.YtamfbmchamgddaaDoorW.PrintWords

structure Par where
  M : Int
  neg : Int
  one : Int
  sq : Int
  rinv : Int
abbrev RR : Int := 115792089237316195423570985008687907853269984665640564039457584007913129639936
abbrev WN (V : Int) : List Int := dN 18446744073709551616 4 V
def Par.mem (p : Par) : List Int := WN p.M ++ [p.neg] ++ WN p.one ++ WN p.sq
theorem WN_len (V : Int) : (WN V).length = 4 := dN_len _ _ _
theorem WN_dig (V : Int) : DW (WN V) := dN_dig (by omega) _ _
theorem Par.mem_len (p : Par) : p.mem.length = 13 := by simp [Par.mem, dN_len]
theorem vW_WN (V : Int) (h : 0 ≤ V ∧ V < RR) : vW (WN V) = V := by
  unfold vW WN
  rw [dL_dN (by omega)]
  exact Int.emod_eq_of_lt h.1 (by simp only [Int.reducePow]; exact h.2)
theorem WN_of {l : List Int} (hl : l.length = 4) (hd : DW l) {V : Int} (h : vW l = V) : l = WN V := dN_of (by omega) hl hd h
structure Par.Ok (p : Par) : Prop where
  lo : 26959946667150639794667015087019630673637144422540572481103610249216 ≤ p.M
  hi : p.M < RR
  neg : 0 ≤ p.neg ∧ p.neg ≤ 18446744073709551615
  hneg : (p.neg * p.M + 1) % 18446744073709551616 = 0
  hone : p.one = RR % p.M
  hsq : p.sq = (RR * RR) % p.M
  hr : (RR * p.rinv) % p.M = 1

theorem Blk.part {w : World} {g : Nat} {k : IntKind} {t : TypeId} {l : List Int} (h : Blk w g k t l) (i n : Nat) (hi : i + n ≤ l.length) (hn : n ≤ 9223372036854775807) : ReadsInt w k (some ⟨g, i, none⟩) n ((l.drop i).take n) := by
  refine ⟨by simp; omega, hn, fun _ => ⟨_, rfl, fun j hj => ?_⟩⟩
  rw [add_off, h.cell (i + j) (by omega)]
  simp [el, List.getD_eq_getElem?_getD, List.getElem?_take, hj]
theorem mem_M (p : Par) : (p.mem.drop 0).take 4 = WN p.M := by simp [Par.mem, List.take_append, dN_len]
theorem mem_one (p : Par) : (p.mem.drop 5).take 4 = WN p.one := by
  unfold Par.mem
  rw [List.drop_append_of_le_length (by simp [dN_len]), List.drop_append_of_le_length (by simp [dN_len])]
  rw [show (WN p.M ++ [p.neg]).drop 5 = [] from List.drop_of_length_le (by simp [dN_len]), List.nil_append, List.take_append_of_le_length (by simp [dN_len]), List.take_of_length_le (by simp [dN_len])]
theorem mem_sq (p : Par) : (p.mem.drop 9).take 4 = WN p.sq := by
  unfold Par.mem
  rw [List.drop_append_of_le_length (by simp [dN_len])]
  rw [show (WN p.M ++ [p.neg] ++ WN p.one).drop 9 = [] from List.drop_of_length_le (by simp [dN_len]), List.nil_append, List.take_of_length_le (by simp [dN_len])]
theorem mem_neg (p : Par) : el p.mem 4 = p.neg := by simp [Par.mem, el, WN, dN]

/-- a whole array, out of a larger block -/
theorem ev_loadpart {P : Program} {ops : Array Oper} {rest : List Oper} {o : Oper} {a : Act} {w : World} {Q : Exit → Act → World → Prop} (hgd : o.guard = none) {ty e : TypeId} {x : Operand} (ho : o.op = .load ty x) {q : Addr} (hx : a.eval x = .pointer (some q)) {k : IntKind} {n : Nat} {xs : List Int} (hr : ReadsInt w k (some q) n xs) (hn : 0 < n)
    (hu : P.underlying ty = some (.array n e)) (hi : (P.info? ty).map (·.size) = some n) (h : wpList P ops Q rest (a.put o.dst (.agg (xs.map (Value.int k)).toArray)) w) : wpList P ops Q (o :: rest) a w :=
  Kd.event_run hgd (exec_load ho hx (run_loadVar_reads hr hn hu hi)) h

theorem results_one {P : Program} {fn : Func} {q : Tmp} {ty : TypeId} (h : fn.results = #[.cell q ty]) (tmps : Array Value) (w : World) {g : Nat} {k : IntKind} {t : TypeId} {l : List Int} (hp : tmps.getD q undef = .pointer (some ⟨g, 0, none⟩)) (hb : Blk w g k t l)
    {d : TypeDesc} (hu : P.underlying ty = some d) (hd : (match d with | .struct _ | .array _ _ => true | _ => false) = true) (hi : (P.info? ty).map (·.size) = some l.length) :
    (results fn tmps).run P w = .ok (.agg (l.map (Value.int k)).toArray) w := results_cell_row h tmps w g t _ (0, 0) d hp hb hu hd (by rw [hi]; simp)

theorem add_fin {s d : List Int} {A B M q c : Int} (hA : 0 ≤ A ∧ A < M) (hB : 0 ≤ B ∧ B < M) (hM : M < RR) (hs : 0 ≤ vW s ∧ vW s < RR) (hd : 0 ≤ vW d ∧ vW d < RR) (hq : 0 ≤ q ∧ q ≤ 1) (hc : 0 ≤ c ∧ c ≤ 1)
    (e1 : vW s + RR * q = A + B) (e2 : vW d - RR * c = vW s - M) : (q = 0 ∧ c = 1 → vW s = (A + B) % M) ∧ (¬ (q = 0 ∧ c = 1) → vW d = (A + B) % M) := by
  have h1 : A + B < M → (A + B) % M = A + B := fun h => Int.emod_eq_of_lt (by omega) h
  have h2 : M ≤ A + B → (A + B) % M = A + B - M := fun h => by rw [← Int.sub_emod_right]; exact Int.emod_eq_of_lt (by omega) (by omega)
  generalize vW s = x at *
  generalize vW d = z at *
  generalize (A + B) % M = y at *
  unfold RR at *
  obtain rfl | rfl : q = 0 ∨ q = 1 := by omega
  · obtain rfl | rfl : c = 0 ∨ c = 1 := by omega
    · refine ⟨fun h => by omega, fun _ => ?_⟩
      rw [h2 (by omega)]; omega
    · refine ⟨fun h => ?_, fun h => by omega⟩
      rw [h1 (by omega)]; omega
  · obtain rfl | rfl : c = 0 ∨ c = 1 := by omega
    · refine ⟨fun h => by omega, fun _ => ?_⟩
      rw [h2 (by omega)]; omega
    · refine ⟨fun h => by omega, fun _ => ?_⟩
      rw [h2 (by omega)]; omega

theorem RR_pow : (18446744073709551616 : Int) ^ 4 = RR := by simp only [Int.reducePow]

set_option maxRecDepth 100000 in
set_option maxHeartbeats 1000000 in
theorem add_any (p : Par) (hp : p.Ok) (gp : Nat) (A B : Int) (w : World) (hA : 0 ≤ A ∧ A < p.M) (hB : 0 ≤ B ∧ B < p.M) (hb : Blk w gp .u64 55 p.mem) :
    Calls Tryd.prog 39 #[.pointer (some ⟨gp, 0, none⟩), arr (WN A), arr (WN B)] w fun e w' => e = .returned (arr (WN ((A + B) % p.M))) ∧ Below w.heap.size w w' := by
  have z53 : (Tryd.prog.info? 53).map (fun i => (i.zero, i.size)) = some (some (.agg ((List.replicate 4 (0 : Int)).map (Value.int .u64)).toArray), 4) := by kernel_rfl
  have z67 : (Tryd.prog.info? 67).map (fun i => (i.zero, i.size)) = some (some (.agg ((List.replicate 4 (0 : Int)).map (Value.int .u64)).toArray), 4) := by kernel_rfl
  replace z53 := Go.Lib.hid z53
  replace z67 := Go.Lib.hid z67
  have hH := hp.hi
  have vA := vW_WN A (by omega)
  have vB := vW_WN B (by omega)
  have vM := vW_WN p.M (by have := hp.lo; omega)
  obtain ⟨a, ea⟩ : ∃ a, a = WN A := ⟨_, rfl⟩
  obtain ⟨b, eb⟩ : ∃ b, b = WN B := ⟨_, rfl⟩
  obtain ⟨m, em⟩ : ∃ m, m = WN p.M := ⟨_, rfl⟩
  rw [← ea] at vA ⊢
  rw [← eb] at vB ⊢
  rw [← em] at vM
  have la : Hid (a.length = 4 ∧ DW a) := Go.Lib.hid (by rw [ea]; exact ⟨WN_len _, WN_dig _⟩)
  have lb : Hid (b.length = 4 ∧ DW b) := Go.Lib.hid (by rw [eb]; exact ⟨WN_len _, WN_dig _⟩)
  have lm : Hid (m.length = 4 ∧ DW m) := Go.Lib.hid (by rw [em]; exact ⟨WN_len _, WN_dig _⟩)
  have rM := hb.part 0 4 (by rw [Par.mem_len]; omega) (by omega)
  rw [mem_M, ← em] at rM
  replace rM := Go.Lib.hid rM
  obtain ⟨R, eR⟩ : ∃ R, R = WN ((A + B) % p.M) := ⟨_, rfl⟩
  rw [← eR]
  have hfin : Hid (∀ s d : List Int, ∀ q c : Int, (s.length = 4 ∧ DW s ∧ (0 ≤ q ∧ q ≤ 1) ∧ vW s + 18446744073709551616 ^ 4 * q = vW a + vW b) → (d.length = 4 ∧ DW d ∧ (0 ≤ c ∧ c ≤ 1) ∧ vW d - 18446744073709551616 ^ 4 * c = vW s - vW m) →
      (q = 0 ∧ c = 1 → s = R) ∧ (¬ (q = 0 ∧ c = 1) → d = R)) := Go.Lib.hid (fun s d q c ⟨s1, s2, s3, s4⟩ ⟨d1, d2, d3, d4⟩ => by
    have r1 := vW_range s2
    have r2 := vW_range d2
    rw [s1, RR_pow] at r1
    rw [d1, RR_pow] at r2
    rw [RR_pow, vA, vB] at s4
    rw [RR_pow, vM] at d4
    obtain ⟨k1, k2⟩ := add_fin hA hB hH r1 r2 s3 d3 s4 d4
    exact ⟨fun h => by rw [eR]; exact WN_of s1 s2 (k1 h), fun h => by rw [eR]; exact WN_of d1 d2 (k2 h)⟩)
  have hRl : Hid (R.length = 4) := Go.Lib.hid (by rw [eR]; exact WN_len _)
  clear hA hB hH vA vB vM ea eb em eR hb
  go_enter Tryd.func39, Tryd.ntmps39
  go_wp2_with (first
    | (refine ev_boxg (x := .tmp 1) rfl rfl rfl ?_; intro ga w1 h1 b1; change Blk w1 ga .u64 67 a at b1)
    | (refine ev_boxg (x := .tmp 2) rfl rfl rfl ?_; intro gb w2 h2 b2; change Blk w2 gb .u64 67 b at b2; replace b1 := h2.blk b1)
    | (refine ev_allocg (ty := 67) rfl rfl z67.out ?_; intro gr w3 h3 b3; change Blk w3 gr .u64 67 (List.replicate 4 0) at b3; replace b1 := h3.blk b1; replace b2 := h3.blk b2)
    | (refine ev_loadarr (x := .tmp 4) rfl rfl rfl b1 Tryd.underlying67 rfl (by rw [la.out.1]; kernel_rfl) ?_)
    | (refine ev_loadarr (x := .tmp 5) rfl rfl rfl b2 Tryd.underlying67 rfl (by rw [lb.out.1]; kernel_rfl) ?_)
    | (go_at_call 61; refine (plus_any a b _ la.out.1 lb.out.1 la.out.2 lb.out.2).mono ?_; rintro e w4 ⟨s, q, rfl, hls, hds, hq, hv, hb4⟩
       have hS := Go.Lib.hid (And.intro hls (And.intro hds (And.intro hq hv)))
       clear hls hds hv)
    | (refine ev_allocg (ty := 53) rfl rfl z53.out ?_; intro gd w5 h5 b5; change Blk w5 gd .u64 53 (List.replicate 4 0) at b5)
    | (refine ev_storearrg rfl rfl rfl b5 rfl (by rw [hS.out.1]; simp) (by rw [hS.out.1]; kernel_rfl) ?_; intro w6 h6 b6))
  have s1 := h1.size
  have s2 := h2.size
  have s3 := h3.size
  have s4 := hb4.size
  have s5 := h5.size
  have s6 := h6.size
  have e1 := h1.le
  have e2 := h2.le
  have e3 := h3.le
  have e5 := h5.le
  have hbel3 : Below w.heap.size w w3 := h3.bel (h2.bel (h1.bel (Below.refl _ _) (Nat.le_refl _)) (by omega)) (by omega)
  have hb36 : Below w3.heap.size w3 w6 := h6.bel (h5.bel hb4 (by omega)) (by omega) (by omega)
  have hbel6 := below_then hbel3 hbel3.size hb36
  have b3' := b3.below hb36
  have rM6 := Go.Lib.hid (rM.out.below hbel6)
  have hgr : w.heap.size ≤ gr := by omega
  have hgr6 : gr < w6.heap.size := by omega
  have hgd6 : gd < w6.heap.size := by omega
  clear h1 h2 h3 h5 h6 b1 b2 b3 hb4 hb36 hbel3 b5 rM e1 e2 e3 e5 s1 s2 s3 s4 s5 s6
  obtain ⟨T, f, neT, hf, hs⟩ := class_type (fun w' => Below w6.heap.size w6 w') w6 (Below.refl _ _)
  replace hf := Go.Lib.hid hf
  replace hs := Go.Lib.hid hs
  have rs6 := Go.Lib.hid (rd_len (b6.reads (by rw [hS.out.1]; omega)) hS.out.1)
  have rM7 := Go.Lib.hid (fun z : T => rM6.out.below (hf.out z))
  have rs7 := Go.Lib.hid (fun z : T => rs6.out.below (hf.out z))
  refine region_effs f [false, false, false, false, false, true, false, false, false, true, true] [[0, 1, 2, 3, 4, 5, 6, 7, 8, 9, 10, 11], [9, 0, 1, 2, 3, 4, 5, 6, 7, 8, 10, 11]] (by kernel_rfl) (by kernel_rfl) (hs.out _ (Below.refl _ _).drew) ?_
  intro ps hps
  simp only [List.mem_cons, List.mem_nil_iff, or_false] at hps
  rcases hps with rfl | rfl
  case' inl =>
    simp only [walks, List.filterMap_cons, List.filterMap_nil, List.getElem?_cons_succ, List.getElem?_cons_zero, Option.map_some, List.getD_cons_succ, List.getD_cons_zero, List.getD_nil]
    refine wlk_pure fun K hK => ?_
    rw [if_pos (by rfl)]
    refine ⟨_, fun z => exec_load rfl rfl (run_loadVar_reads (rs7.out z) (by omega) Tryd.underlying53 (by kernel_rfl)), hK _ ?_⟩
    clear hK K
    repeat (refine wlk_pure fun K hK => ?_; go_simp; refine hK _ ?_; clear hK K)
    refine wlk_pure fun K hK => ?_
    rw [if_pos (by rfl)]
    refine ⟨_, fun z => exec_load rfl rfl (run_loadVar_reads (rM7.out z) (by omega) Tryd.underlying53 (by kernel_rfl)), hK _ ?_⟩
    clear hK K
    refine wlk_eff fun K hK => ?_
    go_simp
    refine (minus_any s m _ hS.out.1 lm.out.1 hS.out.2.1 lm.out.2).mono ?_
    rintro e w7 ⟨d, c, rfl, hld, hdd, hc, hv, hb7⟩
    replace hb7 : Below w6.heap.size w6 w7 := (Below.refl _ _).drew.trans hb7
    have hD := Go.Lib.hid (And.intro hld (And.intro hdd (And.intro hc hv)))
    clear hld hdd hv
    refine hK _ _ (hs.out _ hb7) ?_
    clear hK K
    repeat (refine wlk_pure fun K hK => ?_; go_simp; refine hK _ ?_; clear hK K)
    refine wlk_list ?_ rfl
    refine ev_allocg (ty := 53) rfl rfl z53.out ?_
    intro g8 w8 h8 b8
    change Blk w8 g8 .u64 53 (List.replicate 4 0) at b8
    have s7 := hb7.size
    have e8 := h8.le
    have s8 := h8.size
    have hb8 : Below w6.heap.size w6 w8 := h8.bel hb7 s7
    refine ⟨rfl, hs.out _ hb8, ?_⟩
    refine wlk_list ?_ rfl
    refine ev_storearrg rfl rfl rfl b8 rfl (by rw [hD.out.1]; simp) (by rw [hD.out.1]; kernel_rfl) ?_
    intro w9 h9 b9
    have s9 := h9.size
    have hb9 : Below w6.heap.size w6 w9 := h9.bel hb8 (by omega) (by omega)
    refine ⟨rfl, hs.out _ hb9, ?_⟩
    repeat (refine wlk_pure fun K hK => ?_; go_simp; refine hK _ ?_; clear hK K)
    refine wlk_nil ?_
  case' inr =>
    simp only [walks, List.filterMap_cons, List.filterMap_nil, List.getElem?_cons_succ, List.getElem?_cons_zero, Option.map_some, List.getD_cons_succ, List.getD_cons_zero, List.getD_nil]
    refine wlk_list ?_ rfl
    refine ev_allocg (ty := 53) rfl rfl z53.out ?_
    intro g8 w8 h8 b8
    change Blk w8 g8 .u64 53 (List.replicate 4 0) at b8
    have e8 : w6.heap.size ≤ g8 := h8.le
    have s8 := h8.size
    have hb8 : Below w6.heap.size w6 w8 := h8.bel (Below.refl _ _).drew (Nat.le_refl _)
    refine ⟨rfl, hs.out _ hb8, ?_⟩
    refine wlk_pure fun K hK => ?_
    rw [if_pos (by rfl)]
    refine ⟨_, fun z => exec_load rfl rfl (run_loadVar_reads (rs7.out z) (by omega) Tryd.underlying53 (by kernel_rfl)), hK _ ?_⟩
    clear hK K
    repeat (refine wlk_pure fun K hK => ?_; go_simp; refine hK _ ?_; clear hK K)
    refine wlk_pure fun K hK => ?_
    rw [if_pos (by rfl)]
    refine ⟨_, fun z => exec_load rfl rfl (run_loadVar_reads (rM7.out z) (by omega) Tryd.underlying53 (by kernel_rfl)), hK _ ?_⟩
    clear hK K
    refine wlk_eff fun K hK => ?_
    go_simp
    refine (minus_any s m _ hS.out.1 lm.out.1 hS.out.2.1 lm.out.2).mono ?_
    rintro e w7 ⟨d, c, rfl, hld, hdd, hc, hv, hb7⟩
    replace b8 := b8.below hb7
    have s7 := hb7.size
    replace hb7 := below_then hb8 hb8.size hb7
    have hD := Go.Lib.hid (And.intro hld (And.intro hdd (And.intro hc hv)))
    clear hld hdd hv
    refine hK _ _ (hs.out _ hb7) ?_
    clear hK K
    repeat (refine wlk_pure fun K hK => ?_; go_simp; refine hK _ ?_; clear hK K)
    refine wlk_list ?_ rfl
    refine ev_storearrg rfl rfl rfl b8 rfl (by rw [hD.out.1]; simp) (by rw [hD.out.1]; kernel_rfl) ?_
    intro w9 h9 b9
    have s9 := h9.size
    have hb9 : Below w6.heap.size w6 w9 := h9.bel hb7 (by omega) (by omega)
    refine ⟨rfl, hs.out _ hb9, ?_⟩
    repeat (refine wlk_pure fun K hK => ?_; go_simp; refine hK _ ?_; clear hK K)
    refine wlk_nil ?_
  all_goals
    have hfin' := hfin.out s d q c hS.out hD.out
    have b6' := b6.below hb9
    have b3'' := b3'.below hb9
    have hbel9 := below_then hbel6 hbel6.size hb9
    have s69 := hb9.size
    replace hfin' := Go.Lib.hid hfin'
    by_cases hqc : q = 0 ∧ c = 1
    case pos =>
      have hb1 : (q == 0) = true := by rw [hqc.1]; rfl
      have hb2 : (c == 1) = true := by rw [hqc.2]; rfl
      have hR := hfin'.out.1 hqc
      subst hR
      clear hqc
      go_wp2_with (first
        | (refine ev_loadarr (x := .tmp 7) rfl rfl rfl b6' Tryd.underlying53 rfl (by rw [hS.out.1]; kernel_rfl) ?_)
        | (refine ev_storearrg rfl rfl rfl b3'' rfl (by rw [hS.out.1]; simp) (by rw [hS.out.1]; kernel_rfl) ?_; intro w10 h10 b10))
      refine bodyPost_ret (results_one rfl _ _ rfl b10 Tryd.underlying67 rfl (by rw [hS.out.1]; kernel_rfl)) rfl ⟨rfl, h10.bel hbel9 (by omega) hgr⟩
    case neg =>
      have hR := hfin'.out.2 hqc
      subst hR
      rcases (show (q == 0) = false ∨ ((q == 0) = true ∧ (c == 1) = false) by
        by_cases h : q = 0
        · right; refine ⟨by simp [h], by simp; exact fun h2 => hqc ⟨h, h2⟩⟩
        · left; simp [h]) with hb1 | ⟨hb1, hb2⟩
      all_goals
        clear hqc
        go_wp2_with (first
          | (refine ev_loadarr rfl rfl rfl b9 Tryd.underlying53 rfl (by rw [hD.out.1]; kernel_rfl) ?_)
          | (refine ev_storearrg rfl rfl rfl b3'' rfl (by rw [hD.out.1]; simp) (by rw [hD.out.1]; kernel_rfl) ?_; intro w10 h10 b10))
        refine bodyPost_ret (results_one rfl _ _ rfl b10 Tryd.underlying67 rfl (by rw [hD.out.1]; kernel_rfl)) rfl ⟨rfl, h10.bel hbel9 (by omega) hgr⟩
end Go.Proofs.YtamfbmchamgddaaDoor

/-
  A line of a product.
-/
namespace Go.Proofs.YtamfbmchamgddaaDoor
set_option linter.unusedVariables false
set_option linter.unusedSimpArgs false
open Go.RowKit Go.Proofs.YtamfbmchamgddaaDoorW.PrintWords

theorem mac_le (hi lo X c p lo1 c1 p' c2 : Int) (hX : hi * 18446744073709551616 + lo = X) (e1 : lo1 + 18446744073709551616 * c1 = lo + c) (e2 : p' + 18446744073709551616 * c2 = p + lo1) : p' + 18446744073709551616 * (hi + c1 + c2) = X + p + c := by omega
theorem mac_le2 (hi lo X c p lo1 c1 p' c2 : Int) (hX : hi * 18446744073709551616 + lo = X) (e1 : lo1 + 18446744073709551616 * c1 = lo + c) (e2 : p' + 18446744073709551616 * c2 = p + lo1) (h : X ≤ 340282366920938463426481119284349108225) (hp : p ≤ 18446744073709551615) (hc : c ≤ 18446744073709551615) (h0 : 0 ≤ p') : hi + c1 + c2 ≤ 18446744073709551615 := by omega
theorem line_step (V V0 Vn x P c t t' c' y : Int) (h : V + P * c = V0 + x * Vn) (e : t' + 18446744073709551616 * c' = x * y + t + c) : V + t' * P + (P * 18446744073709551616) * c' = (V0 + t * P) + x * (Vn + y * P) := by grind

/-- line: block t holds six words -/
structure Ln (Bs gt gn : Nat) (n T : List Int) (w wr : World) : Prop where
  ht : Blk wr gt .u64 85 T
  hn : Blk wr gn .u64 53 n
  h1 : Bs ≤ gn
  ne : gt ≠ gn
  fr : Fr Bs gt w wr
theorem Ln.set {Bs gt gn : Nat} {n T : List Int} {w wr : World} (h : Ln Bs gt gn n T w wr) (i : Nat) (v : Int) : Ln Bs gt gn n (T.set i v) w (wr.setCell ⟨gt, i, none⟩ (.int .u64 v)) :=
  ⟨h.ht.set i v, h.hn.far (by simp; exact h.ne.symm) _, h.h1, h.ne, h.fr.set i _⟩
theorem Ln.draw {Bs gt gn : Nat} {n T : List Int} {w wr : World} (h : Ln Bs gt gn n T w wr) (k : Nat) : Ln Bs gt gn n T w (wr.drewN k) := ⟨h.ht.drewN k, h.hn.drewN k, h.h1, h.ne, (Sm.drewN wr k).fr h.fr⟩

set_option maxRecDepth 100000 in
set_option maxHeartbeats 1000000 in
theorem line_any (gt : Nat) (T n : List Int) (x top : Int) (w : World) (hT : T.length = 6) (hTd : DW T) (hn : n.length = 4) (hnd : DW n) (hx : Word x) (htop : Word top) (hb : Blk w gt .u64 85 T) :
    Calls Tryd.prog 63 #[.pointer (some ⟨gt, 0, none⟩), .int .u64 x, arr n, .int .u64 top] w fun e w' =>
      ∃ T' s q, e = .returned (.tuple #[.int .u64 s, .int .u64 q]) ∧ (T'.length = 6 ∧ DW T' ∧ T'.drop 4 = T.drop 4 ∧ Word s ∧ (0 ≤ q ∧ q ≤ 1) ∧
        vW (T'.take 4) + 18446744073709551616 ^ 4 * (s + 18446744073709551616 * q) = vW (T.take 4) + x * vW n + 18446744073709551616 ^ 4 * top) ∧ Blk w' gt .u64 85 T' ∧ Fr w.heap.size gt w w' := by
  have hTl := Go.Lib.hid hT
  have hTD := Go.Lib.hid hTd
  have hnl := Go.Lib.hid hn
  have hnD := Go.Lib.hid hnd
  have hX := Go.Lib.hid hx
  have hTop := Go.Lib.hid htop
  have hgt := hb.lt
  clear hT hTd hn hnd hx htop
  go_enter Tryd.func63, Tryd.ntmps63
  go_wp2_with (first
    | (refine ev_boxg rfl rfl rfl ?_; intro gn w1 h1 b1; change Blk w1 gn .u64 53 n at b1)
    | (refine ev_loadarr rfl rfl rfl b1 Tryd.underlying53 rfl (by rw [hnl.out]; kernel_rfl) ?_))
  have hO : Hid (∃ L : List Int, L.length = 6 ∧ DW L ∧ L.drop 0 = T.drop 0 ∧ vW (L.take 0) + 18446744073709551616 ^ 0 * 0 = vW (T.take 0) + x * vW (n.take 0) ∧ Ln w.heap.size gt gn n L w w1) :=
    Go.Lib.hid ⟨T, hTl.out, hTD.out, rfl, by simp [dL], h1.blk hb, b1, h1.le, by have := h1.eq; omega, ⟨h1.grown.os, h1.grown.tape, h1.grown.output, h1.grown.size, fun k hk _ => h1.grown.block k hk (by simp)⟩⟩
  obtain ⟨i53, hi53, hz53⟩ := Option.map_eq_some_iff.1 (show (Tryd.prog.info? 51).map (·.size) = some 1 by kernel_rfl)
  replace hi53 := Go.Lib.hid hi53
  replace hz53 := Go.Lib.hid hz53
  clear h1 b1 hb
  go_loopw [17, 10] (fun i c wr => ∃ (k : Nat) (q : Int), k ≤ 4 ∧ i = .int .i64 k ∧ c = .int .u64 q ∧ Hid (Word q) ∧ Hid (∃ L : List Int, L.length = 6 ∧ DW L ∧ L.drop k = T.drop k ∧ vW (L.take k) + 18446744073709551616 ^ k * q = vW (T.take k) + x * vW (n.take k) ∧ Ln w.heap.size gt gn n L w wr)) (fun i _ _ => 4 - (intOf i).toNat)
  case atStart => exact ⟨0, 0, by omega, rfl, rfl, Go.Lib.hid ⟨by omega, by omega⟩, hO⟩
  case round =>
    obtain ⟨k, q, hk, rfl, rfl, hq, hO⟩ := hrel
    obtain ⟨L, hl, hd, hdr, hv, hS⟩ := hO.out
    by_cases hlt : k < 4
    · have c1 := hS.ht.cell k (by omega)
      have f1 := hS.ht.frozen k
      have ilt : (k : Int) < 4 := by omega
      have ilt6 : (k : Int) < 6 := by omega
      have hix := run_index_arr (P := Tryd.prog) Tryd.underlying53 Tryd.underlying51 hi53.out hz53.out n .u64 k hnl.out hlt
      have hy := hnD.out.word k
      obtain ⟨hi, lo, m1, m2, m3, m4, m5, m6⟩ := mul64_let x (el n k) hX.out hy
      obtain ⟨lo1, c1', a1, a2, a3, a4⟩ := add64_let0 lo q ⟨m4, m5⟩ hq.out
      obtain ⟨t', c2', d1, d2, d3, d4⟩ := add64_let0 (el L k) lo1 (hd.word k) a2
      have hmr := mul_range x (el n k) hX.out hy
      have hLw := hd.word k
      have hqw := hq.out
      have hmac := mac_le hi lo _ q (el L k) lo1 c1' t' c2' m6 a4 d4
      have hmac2 := mac_le2 hi lo _ q (el L k) lo1 c1' t' c2' m6 a4 d4 hmr.2 hLw.2 hqw.2 d2.1
      have hc' : Hid (Word (hi + c1' + c2')) := Go.Lib.hid ⟨by have := a3.1; have := d3.1; omega, hmac2⟩
      have hb1 : hi + c1' ≤ 18446744073709551615 := by have := d3.1; omega
      have hb2 : 0 ≤ hi + c1' := by have := a3.1; omega
      have hb3 : 0 ≤ hi + c1' + c2' := by have := d3.1; omega
      have hlo : 0 ≤ lo ∧ lo ≤ 18446744073709551615 := ⟨m4, m5⟩
      have hek : el L k = el T k := by
        have := congrArg (fun l => el l 0) hdr
        simpa [el_drop] using this
      have hdk : L.drop (k + 1) = T.drop (k + 1) := by rw [← List.drop_drop, ← List.drop_drop, hdr]
      replace hl := Go.Lib.hid hl
      replace hd := Go.Lib.hid hd
      replace hv := Go.Lib.hid hv
      replace hS := Go.Lib.hid hS
      replace hmac := Go.Lib.hid hmac
      replace hek := Go.Lib.hid hek
      replace hdk := Go.Lib.hid hdk
      replace d2 := Go.Lib.hid d2
      clear hO hdr m6 a4 d4 hmr hLw hqw hy
      go_wp2_with (first
        | (go_at_call 75; refine (m1 _).mono ?_; rintro e w2 ⟨rfl, rfl⟩))
      refine region_float (C := fun w' => ∃ n, w' = w2.drewN n)
        [true, true, true, true, true, true, true, true, true, true, true, false, true, true]
        [false, false, false, false, false, false, false, false, false, false, false, true]
        [false, false, false, false, false, false, false, false, false, false, false, false, false, false, true, true]
        (by kernel_rfl) (by simp) (by kernel_rfl) ⟨1, rfl⟩ ?_
      simp only [pick_t, pick_f, pick_n]
      repeat quiet_step (fail)
      refine wpQuiet_nil ?_
      refine pList_step fun K hK => ?_
      go_simp
      refine hK _ ?_
      clear hK K
      refine pList_nil ?_
      rintro _ ⟨nq, rfl⟩
      refine nList_step fun K hK => ?_
      go_simp
      refine ⟨undef, _, And.intro rfl rfl, hK _ _ ?_⟩
      clear hK K
      refine nList_step fun K hK => ?_
      go_simp
      refine ⟨_, _, And.intro rfl rfl, hK _ _ ?_⟩
      clear hK K
      refine nList_nil ?_
      go_wp2_with fail
      go_roundw
      case rel =>
        refine ⟨k + 1, hi + c1' + c2', by omega, by go_num, rfl, hc', Go.Lib.hid ⟨_, set_len hl.out k t', hd.out.put k t' d2.out, ?_, ?_, (hS.out.draw nq).set k t'⟩⟩
        · rw [List.drop_set_of_lt (by omega)]; exact hdk.out
        · unfold vW
          rw [dL_take, dL_take, dL_take, el_setv _ _ _ (by rw [hl.out]; omega), take_set_past _ _ _ _ (Nat.le_refl _), Int.pow_succ]
          exact line_step _ _ _ _ _ _ _ _ _ _ hv.out (by rw [← hek.out]; exact hmac.out)
      case measure => simp [intOf]; omega
    · obtain rfl : k = 4 := by omega
      rw [show ((4 : Nat) : Int) = 4 from rfl]
      rw [List.take_of_length_le (l := n) (by rw [hnl.out]; omega)] at hv
      obtain ⟨s, q', a1, a2, a3, a4⟩ := add64_let0 top q hTop.out hq.out
      have hres : Hid ((L.length = 6 ∧ DW L ∧ L.drop 4 = T.drop 4 ∧ Word s ∧ (0 ≤ q' ∧ q' ≤ 1) ∧
        vW (L.take 4) + 18446744073709551616 ^ 4 * (s + 18446744073709551616 * q') = vW (T.take 4) + x * vW n + 18446744073709551616 ^ 4 * top) ∧ Blk wr gt .u64 85 L ∧ Fr w.heap.size gt w wr) :=
        Go.Lib.hid ⟨⟨hl, hd, hdr, a2, a3, by rw [a4, Int.mul_add]; omega⟩, hS.ht, hS.fr⟩
      clear hO hl hd hdr hv hS a2 a3 a4
      go_wp2_with fail
      go_ret2
      exact ⟨L, s, q', rfl, hres.out.1, hres.out.2.1, hres.out.2.2⟩
end Go.Proofs.YtamfbmchamgddaaDoor

/-
  The upper line of a product.
-/
namespace Go.Proofs.YtamfbmchamgddaaDoor
set_option linter.unusedVariables false
set_option linter.unusedSimpArgs false
open Go.RowKit Go.Proofs.YtamfbmchamgddaaDoorW.PrintWords

/-- six words as a number -/
def v6 (T : List Int) : Int := vW (T.take 4) + 18446744073709551616 ^ 4 * (el T 4 + 18446744073709551616 * el T 5)
theorem v6_vW (T : List Int) (h : T.length = 6) : v6 T = vW T := by
  match T, h with
  | [a, b, c, d, e, f], _ =>
    simp only [v6, vW, dL, el, List.take, List.getD_cons_succ, List.getD_cons_zero, Int.reducePow]
    omega

theorem el_of_drop {L T : List Int} {k : Nat} (h : L.drop k = T.drop k) (i : Nat) (hi : k ≤ i) : el L i = el T i := by
  have := congrArg (fun l => el l (i - k)) h
  simp only [el_drop] at this
  rwa [show k + (i - k) = i from by omega] at this

set_option maxRecDepth 100000 in
set_option maxHeartbeats 1000000 in
theorem lineTop_any (gt : Nat) (T n : List Int) (x : Int) (w : World) (hT : T.length = 6) (hTd : DW T) (h5 : el T 5 ≤ 1000) (hn : n.length = 4) (hnd : DW n) (hx : Word x) (hb : Blk w gt .u64 85 T) :
    Calls Tryd.prog 64 #[.pointer (some ⟨gt, 0, none⟩), .int .u64 x, arr n] w fun e w' =>
      ∃ T' s q, e = .returned (.tuple #[.int .u64 s, .int .u64 q]) ∧ (T'.length = 6 ∧ DW T' ∧ Word s ∧ Word q ∧
        vW (T'.take 4) + 18446744073709551616 ^ 4 * (s + 18446744073709551616 * q) = v6 T + x * vW n) ∧ Blk w' gt .u64 85 T' ∧ Fr w.heap.size gt w w' := by
  have c5 := hb.cell 5 (by omega)
  have hw5 := hTd.word 5
  have hgt := hb.lt
  have hcall := Go.Lib.hid (fun w => line_any gt T n x (el T 4) w hT hTd hn hnd hx (hTd.word 4))
  obtain ⟨six, e6⟩ : ∃ six, six = el T 5 := ⟨_, rfl⟩
  rw [← e6] at c5 hw5 h5
  have hnl := Go.Lib.hid hn
  have hTl := Go.Lib.hid hT
  replace e6 := Go.Lib.hid e6
  have H5 : 0 ≤ six := hw5.1
  clear hT hTd hn hnd hw5 hx
  go_enter Tryd.func64, Tryd.ntmps64
  go_wp2_with (first
    | (refine ev_boxg rfl rfl rfl ?_; intro gn w1 h1 b1; change Blk w1 gn .u64 53 n at b1; replace c5 := h1.cell c5))
  have hb1 := h1.blk hb
  have hf1 : Fr w.heap.size gt w w1 := ⟨h1.grown.os, h1.grown.tape, h1.grown.output, h1.grown.size, fun k hk _ => h1.grown.block k hk (by simp)⟩
  have e1 := h1.le
  have s1 := h1.size
  have hne : gn ≠ gt := by omega
  obtain ⟨tp, etp⟩ : ∃ tp, tp = el T 4 := ⟨_, rfl⟩
  rw [← etp] at hcall
  obtain ⟨TT, f, neT, hf, hs⟩ := class_type (fun w' => w'.cell? ⟨gt, 4, none⟩ = some (.int .u64 tp) ∧ Blk w' gn .u64 53 n) w1 ⟨by rw [etp]; exact hb1.cell 4 (by rw [hTl.out]; omega), b1⟩
  have hc4 : ∀ s, (f s).cell? ⟨gt, 4, none⟩ = some (.int .u64 tp) := fun s => (hf s).1
  have hrn := Go.Lib.hid (fun s => (rd_len ((hf s).2.reads (by rw [hnl.out]; omega)) hnl.out))
  replace hs := Go.Lib.hid hs
  replace etp := Go.Lib.hid etp
  have hC1 : Hid (w1.cell? ⟨gt, 4, none⟩ = some (.int .u64 tp)) := Go.Lib.hid (by rw [etp.out]; exact hb1.cell 4 (by rw [hTl.out]; omega))
  replace hb1 := Go.Lib.hid hb1
  clear h1 hb c5
  refine region_eff f [false, false, false, false, false, false, false, true] (by kernel_rfl) (by kernel_rfl) (hs.out _ ⟨hC1.out, b1⟩) ?_
  simp only [masked_cons, masked_out, masked_nil]
  iterate 2 (refine wlk_pure fun K hK => ?_; go_simp; refine hK _ ?_; clear hK K)
  refine wlk_pure fun K hK => ?_
  rw [if_pos (by rfl)]
  refine ⟨_, fun z => exec_load rfl rfl (run_loadVar_reads (hrn.out z) (by omega) Tryd.underlying53 (by kernel_rfl)), hK _ ?_⟩
  clear hK K
  repeat (refine wlk_pure fun K hK => ?_; go_simp; refine hK _ ?_; clear hK K)
  refine wlk_eff fun K hK => ?_
  go_simp
  refine (hcall.out _ (hb1.out.drew)).mono ?_
  rintro e w2 ⟨T', s, q, rfl, ⟨t1, t2, t3, t4, t5, t6⟩, hb2, hf2⟩
  have hc2 : w2.cell? ⟨gt, 4, none⟩ = some (.int .u64 tp) := by
    rw [hb2.cell 4 (by omega), el_of_drop t3 4 (Nat.le_refl _), etp.out]
  refine hK _ _ (hs.out _ ⟨hc2, (b1.drew).grown hf2.grown (by simp; exact hne)⟩) ?_
  clear hK K
  repeat (refine wlk_pure fun K hK => ?_; go_simp; refine hK _ ?_; clear hK K)
  refine wlk_nil ?_
  have hq0 := t5.1
  have hq1 := t5.2
  have hres : Hid (T'.length = 6 ∧ DW T' ∧ Word s ∧ Word (six + q) ∧ vW (T'.take 4) + 18446744073709551616 ^ 4 * (s + 18446744073709551616 * (six + q)) = v6 T + x * vW n) := Go.Lib.hid ⟨t1, t2, t4, ⟨by omega, by omega⟩, by
    unfold v6
    rw [e6.out]
    rw [← etp.out]
    have h7 : vW (T'.take 4) + 18446744073709551616 ^ 4 * (s + 18446744073709551616 * q) = vW (T.take 4) + x * vW n + 18446744073709551616 ^ 4 * tp := t6
    simp only [Int.reducePow] at h7 ⊢
    generalize vW (T'.take 4) = V at *
    generalize vW (T.take 4) = V0 at *
    generalize x * vW n = X at *
    omega⟩
  have hfin : Fr w.heap.size gt w w2 := hf1.drew.trans (hf2.mono (by show w.heap.size ≤ w1.heap.size; omega))
  clear t1 t2 t3 t4 t5 t6 hc2
  go_wp2_with fail
  go_ret2
  exact ⟨T', s, six + q, rfl, hres.out, hb2, hfin⟩
end Go.Proofs.YtamfbmchamgddaaDoor

/-
  A product modulo a prime.
-/
namespace Go.Proofs.YtamfbmchamgddaaDoor
set_option linter.unusedVariables false
set_option linter.unusedSimpArgs false
open Go.RowKit Go.Proofs.YtamfbmchamgddaaDoorW.PrintWords

theorem ev_copysl {P : Program} {w : World} {ops : Array Oper} {rest : List Oper} {o : Oper} {a : Act} {Q : Exit → Act → World → Prop} (hgd : o.guard = none) (d s : Operand) (dT sT : TypeId)
    (ho : o.op = .call { callee := .builtin .copy, args := #[d, s], argTypes := #[dT, sT] }) (elem : TypeId) (hu : P.underlying dT = some (.slice elem)) (hsz : (P.info? elem).map (·.size) = some 1)
    {g dLen dCap n c : Nat} {A : Option Addr} {k : IntKind} {xs : List Int} (hd : a.eval d = .slice (some ⟨g, 0, none⟩) dLen dCap) (hs : a.eval s = .slice A n c) (hr : ReadsInt w k A n xs) {t : TypeId} {l : List Int} (hb : Blk w g k t l) (h0 : 0 < n) (hle : n ≤ dLen) (hdl : dLen ≤ l.length)
    (h : ∀ w1, Stored g w w1 → Blk w1 g k t (xs ++ l.drop n) → wpList P ops Q rest (a.put o.dst (goInt n)) w1) : wpList P ops Q (o :: rest) a w := by
  obtain ⟨hl, _, hc⟩ := hr
  obtain ⟨ad, rfl, hcell⟩ := hc h0
  refine wpList_copy_own hgd d s dT sT ho elem hu hsz g 0 dLen dCap ad n c hd hs _ t hb (xs.map (Value.int k)) (by simp [hl, Nat.min_eq_left hle]) (fun j v hj => ?_) (by simp [hl]; omega) (by simp [Value.oneCell']) ?_
  · have hj' : j < n := by
      rw [← hl]
      have := (List.getElem?_eq_some_iff.1 hj).1
      simpa using this
    rw [hcell j hj', ← hj, List.getElem?_map, List.getD_eq_getElem?_getD, List.getElem?_eq_getElem (by omega)]
    rfl
  · have e1 : goInt (xs.map (Value.int k)).length = goInt n := by simp [hl]
    have e2 : ((List.map (Value.int k) l).toArray.toList.take 0 ++ (xs.map (Value.int k) ++ (List.map (Value.int k) l).toArray.toList.drop (0 + (xs.map (Value.int k)).length))).toArray = ((xs ++ l.drop n).map (Value.int k)).toArray := by simp [hl]
    rw [e1, e2]
    exact h _ ⟨grown_setRow _ _ _, by simp⟩ (hb.setRow _)

structure Mm (Bs gt gb : Nat) (b T : List Int) (w wr : World) : Prop where
  ht : Blk wr gt .u64 85 T
  hb : Blk wr gb .u64 67 b
  h1 : Bs ≤ gt
  h2 : Bs ≤ gb
  ne : gb ≠ gt
  bel : Below Bs w wr
theorem Mm.fr {Bs gt gb : Nat} {b T T' : List Int} {w wr w2 : World} (h : Mm Bs gt gb b T w wr) (hb : Blk w2 gt .u64 85 T') (hf : Fr wr.heap.size gt wr w2) : Mm Bs gt gb b T' w w2 :=
  ⟨hb, h.hb.grown hf.grown (by simp; exact h.ne), h.h1, h.h2, h.ne, h.bel.trans ((hf.mono (Nat.le_trans (by exact Nat.le_of_lt (Nat.lt_of_le_of_lt h.h1 h.ht.lt)) (Nat.le_refl _))).below h.h1)⟩
theorem Mm.set {Bs gt gb : Nat} {b T : List Int} {w wr : World} (h : Mm Bs gt gb b T w wr) (i : Nat) (v : Int) : Mm Bs gt gb b (T.set i v) w (wr.setCell ⟨gt, i, none⟩ (.int .u64 v)) :=
  ⟨h.ht.set i v, h.hb.far (by simp; exact h.ne) _, h.h1, h.h2, h.ne, h.bel.setCell h.h1 _⟩
theorem Mm.draw {Bs gt gb : Nat} {b T : List Int} {w wr : World} (h : Mm Bs gt gb b T w wr) (n : Nat) : Mm Bs gt gb b T w (wr.drewN n) := ⟨h.ht.drewN n, h.hb.drewN n, h.h1, h.h2, h.ne, pw_below_drewN h.bel n⟩
theorem Mm.stored {Bs gt gb : Nat} {b T T' : List Int} {w wr w2 : World} (h : Mm Bs gt gb b T w wr) (hs : Stored gt wr w2) (hb : Blk w2 gt .u64 85 T') (hB : Bs ≤ wr.heap.size) : Mm Bs gt gb b T' w w2 :=
  ⟨hb, hs.blk h.hb h.ne, h.h1, h.h2, h.ne, hs.bel h.bel hB h.h1⟩

/-! ### plain -/
theorem v6_cons (T : List Int) (h : T.length = 6) : v6 T = el T 0 + 18446744073709551616 * vW (T.drop 1) := by
  rw [v6_vW T h]
  match T, h with
  | [a, b, c, d, e, f], _ => simp [vW, dL, el]
theorem v6_set (T : List Int) (s q : Int) (h : T.length = 6) : v6 ((T.set 4 s).set 5 q) = vW (T.take 4) + 18446744073709551616 ^ 4 * (s + 18446744073709551616 * q) := by
  match T, h with
  | [a, b, c, d, e, f], _ => simp [v6, vW, dL, el]
theorem v6_shift (T : List Int) (h : T.length = 6) : v6 (((T.drop 1).take 5 ++ T.drop 5).set 5 0) = vW (T.drop 1) := by
  match T, h with
  | [a, b, c, d, e, f], _ => simp [v6, vW, dL, el]; omega
theorem shift_dig {T : List Int} (h : DW T) : DW (((T.drop 1).take 5 ++ T.drop 5).set 5 0) := Dig.set (Dig.app (Dig.take (Dig.drop h 1) 5) (Dig.drop h 5)) 5 0 (by omega)
theorem shift_len (T : List Int) (h : T.length = 6) : (((T.drop 1).take 5 ++ T.drop 5).set 5 0).length = 6 := by simp [h]
theorem low_mod (t X q M neg : Int) (h : (neg * M + 1) % 18446744073709551616 = 0) : (t + 18446744073709551616 * X + (t * neg % 18446744073709551616) * M) % 18446744073709551616 = 0 := by
  have h1 : ((t * neg) % 18446744073709551616 * M) % 18446744073709551616 = (t * neg * M) % 18446744073709551616 := by rw [Int.mul_emod, Int.emod_emod_of_dvd _ (Int.dvd_refl _), ← Int.mul_emod]
  have h2 : (t + 18446744073709551616 * X + (t * neg % 18446744073709551616) * M) % 18446744073709551616 = (t + t * neg * M) % 18446744073709551616 := by
    generalize (t * neg) % 18446744073709551616 * M = z at *
    generalize t * neg * M = y at *
    omega
  rw [h2, show t + t * neg * M = t * (neg * M + 1) by grind, Int.mul_emod, h, Int.mul_zero, Int.zero_emod]
/-- one round -/
theorem mul_round {V x b M t0 X qd V' : Int} (hV : 0 ≤ V ∧ V < 2 * M) (hx : 0 ≤ x ∧ x ≤ 18446744073709551615) (hb : 0 ≤ b ∧ b < M) (hq : 0 ≤ qd ∧ qd ≤ 18446744073709551615) (e : 18446744073709551616 * V' = V + x * b + qd * M) : 0 ≤ V' ∧ V' < 2 * M := by
  have h1 : 0 ≤ x * b := Int.mul_nonneg hx.1 hb.1
  have h2 : x * b ≤ 18446744073709551615 * M := Int.mul_le_mul hx.2 (by omega) hb.1 (by omega)
  have h3 : 0 ≤ qd * M := Int.mul_nonneg hq.1 (by omega)
  have h4 : qd * M ≤ 18446744073709551615 * M := Int.mul_le_mul_of_nonneg_right hq.2 (by omega)
  generalize x * b = y at *
  generalize qd * M = z at *
  omega
theorem mul_inv {P V x b M qd V' Va z : Int} (h : P * V = Va * b + z * M) (e : 18446744073709551616 * V' = V + x * b + qd * M) : (P * 18446744073709551616) * V' = (Va + x * P) * b + (z + P * qd) * M := by
  have : (P * 18446744073709551616) * V' = P * (18446744073709551616 * V') := by grind
  rw [this, e]
  grind
/-- what the rounds come to -/
theorem mul_end {r A b M rinv z c : Int} (hr : 0 ≤ r ∧ r < M) (h : RR * (r + c * M) = A * b + z * M) (hi : (RR * rinv) % M = 1) : r = (A * b * rinv) % M := by
  have h1 : A * b * rinv = RR * rinv * r + M * ((RR * c - z) * rinv) := by
    have : A * b = RR * (r + c * M) - z * M := by omega
    rw [this]
    grind
  rw [h1, Int.add_mul_emod_self_left, Int.mul_emod, hi, Int.one_mul, Int.emod_emod_of_dvd _ (Int.dvd_refl _), Int.emod_eq_of_lt hr.1 hr.2]
theorem mul_fin {s d t4 M c V : Int} (hM : 0 < M ∧ M < RR) (hs : 0 ≤ s ∧ s < RR) (hd : 0 ≤ d ∧ d < RR) (hc : 0 ≤ c ∧ c ≤ 1) (ht : 0 ≤ t4) (hV : 0 ≤ V ∧ V < 2 * M) (e1 : V = s + RR * t4) (e2 : d - RR * c = s - M) :
    (t4 = 0 ∧ c = 1 → s < M ∧ V = s + 0 * M) ∧ (¬ (t4 = 0 ∧ c = 1) → d < M ∧ V = d + 1 * M) := by
  unfold RR at *
  have ht1 : t4 ≤ 1 := by omega
  obtain rfl | rfl : t4 = 0 ∨ t4 = 1 := by omega
  · obtain rfl | rfl : c = 0 ∨ c = 1 := by omega
    · exact ⟨fun h => by omega, fun _ => by omega⟩
    · exact ⟨fun _ => by omega, fun h => by omega⟩
  · obtain rfl | rfl : c = 0 ∨ c = 1 := by omega
    · exact ⟨fun h => by omega, fun _ => by omega⟩
    · exact ⟨fun h => by omega, fun _ => by omega⟩
end Go.Proofs.YtamfbmchamgddaaDoor
