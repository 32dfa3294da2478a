/-
  A region that draws its order, in phases: between two operations that write (or make memory, or call what does) all are quiet; some may float past them.
-/
import Derived.Test.YtdocbmgledebaaaFlt
namespace Go.Proofs.Ytdocbmgledebaaa
set_option linter.unusedVariables false
set_option linter.unusedSimpArgs false
open Go
section
variable {P : Program} {ops : Array Oper} {md : Region.Mode} {C : Nat → World → Prop}

/-- an operation that turns the world: it yields v, in a world of class D -/
def tUpon (P : Program) (D : World → Prop) (v : Value) : Result Next → Prop
  | .ok (.value u) w' => u = v ∧ D w'
  | .ok .skip w' => v = undef ∧ D w'
  | .ok (.enter f args) w' => Calls P f args w' (fun e w'' => e = .returned v ∧ D w'')
  | _ => False
def tOp (P : Program) (ops : Array Oper) (C D : World → Prop) (i : Nat) (K : Act → Prop) (a : Act) : Prop :=
  ∃ o, ops[i]? = some o ∧ Region.wanted o (yielded ops a.tmps) = true ∧ ∃ v, (∀ w, C w → tUpon P D v ((execOp a.eval o).run P w)) ∧ K (a.put o.dst v)
def wpM (P : Program) (md : Region.Mode) (ops : Array Oper) (C : Nat → World → Prop) (t : List Nat) (Q : Act → World → Prop) : Nat → Array Bool → Nat → Act → Prop
  | 0, listed, k, a => Region.ready md ops listed = [] ∧ ∀ w, C k w → Q a w
  | f + 1, listed, k, a => Region.ready md ops listed ≠ [] ∧ ∀ i ∈ Region.ready md ops listed,
      (i ∈ t → tOp P ops (C k) (C (k + 1)) i (wpM P md ops C t Q f (listed.setIfInBounds i true) (k + 1)) a) ∧ (i ∉ t → qOp P ops (C k) i (wpM P md ops C t Q f (listed.setIfInBounds i true) k) a)

theorem wpOp_of_tOp {i : Nat} {C D : World → Prop} {K : Act → Prop} {K' : Act → World → Prop} {Q' : Exit → Act → World → Prop} {a : Act} {w : World} (hw : C w) (h : ∀ a w', D w' → K a → K' a w') (hh : tOp P ops C D i K a) : wpOp P ops Q' i K' a w := by
  obtain ⟨o, ho, hwt, v, h1, h2⟩ := hh
  unfold wpOp
  simp only [ho, hwt, if_true]
  refine .inl ?_
  have h3 := h1 w hw
  unfold Oper.wp
  generalize (execOp a.eval o).run P w = r at *
  cases r with
  | ok n w'' =>
    cases n <;> simp only [tUpon] at h3 <;> simp only [Oper.upon]
    case value u => obtain ⟨rfl, e2⟩ := h3; exact h _ _ e2 h2
    case skip => obtain ⟨rfl, e2⟩ := h3; exact h _ _ e2 h2
    case enter f args =>
      refine Calls.mono h3 fun e w3 he => ?_
      obtain ⟨rfl, e2⟩ := he
      exact h _ _ e2 h2
  | halt x w'' => simp only [tUpon] at h3
theorem wpAny_of_wpM {t : List Nat} {Q : Act → World → Prop} {Q' : Exit → Act → World → Prop} (hQ : ∀ a w, Q a w → Q' .normal a w) : ∀ (f : Nat) (listed : Array Bool) (k : Nat) (a : Act) (w : World), C k w → wpM P md ops C t Q f listed k a → wpAny P md ops Q' f listed a w
  | 0, _, _, _, _, hw, h => ⟨h.1, hQ _ _ (h.2 _ hw)⟩
  | f + 1, _, _, _, w, hw, h => ⟨fun h0 => absurd h0 h.1, fun i hi => by
      by_cases hit : i ∈ t
      · exact wpOp_of_tOp hw (fun a' w' hw' h' => wpAny_of_wpM hQ f _ _ a' w' hw' h') ((h.2 i hi).1 hit)
      · exact wpOp_of_qOp hw (fun a' w' hw' h' => wpAny_of_wpM hQ f _ _ a' w' hw' h') ((h.2 i hi).2 hit)⟩

/-- In every phase the same value. -/
def YieldsUp (P : Program) (ops : Array Oper) (C : Nat → World → Prop) (o : Oper) (v : Value) (a : Act) : Prop :=
  (Region.wanted o (yielded ops a.tmps) = true ∧ ∀ k w, C k w → o.quietAt P a (C k) w v) ∨ (Region.wanted o (yielded ops a.tmps) = false ∧ v = undef)
theorem YieldsUp.yin {o : Oper} {v : Value} {a : Act} (hy : YieldsUp P ops C o v a) (k : Nat) : YieldsIn P ops (C k) o v a := hy.imp (fun h => ⟨h.1, h.2 k⟩) id
theorem YieldsUp.of_same {o : Oper} {v : Value} {a a' : Act} (hy : YieldsUp P ops C o v a) (he : execOp a'.eval o = execOp a.eval o)
    (hw : Region.wanted o (yielded ops a'.tmps) = Region.wanted o (yielded ops a.tmps)) : YieldsUp P ops C o v a' := by
  unfold YieldsUp Oper.quietAt at *
  rw [he, hw]
  exact hy
theorem tOp_mono {i : Nat} {C D : World → Prop} {K K' : Act → Prop} {a : Act} (h : ∀ a, K a → K' a) (hh : tOp P ops C D i K a) : tOp P ops C D i K' a := by
  obtain ⟨o, ho, hwt, v, h1, h2⟩ := hh
  exact ⟨o, ho, hwt, v, h1, h _ h2⟩
theorem tOp_put {j : Nat} {oi oj : Oper} {v : Value} {C' D : World → Prop} (hj : ops[j]? = some oj) (hap : oi.apart ops oj = true)
    (hsi : ∀ cs b, oi.op ≠ .select cs b) (hsj : ∀ cs b, oj.op ≠ .select cs b) {K : Act → Prop} {a : Act}
    (hy : YieldsUp P ops C oi v a) (h : tOp P ops C' D j K (a.put oi.dst v)) :
    tOp P ops C' D j (fun a' => YieldsUp P ops C oi v a' ∧ K (a'.put oi.dst v)) a := by
  obtain ⟨h1, h2, h3⟩ := Oper.apart_spec hap
  have keep : ∀ (a : Act), YieldsUp P ops C oi v a → ∀ u, YieldsUp P ops C oi v (a.put oj.dst u) := fun a hy u =>
    hy.of_same (execOp_put oi hsi a oj.dst u h3) (wanted_put oi a oj.dst u h3)
  obtain ⟨o, ho, hwt, u, hu, hn⟩ := h
  obtain rfl : o = oj := Option.some.inj (ho.symm.trans hj)
  rw [wanted_put o a oi.dst v h1] at hwt
  refine ⟨o, hj, hwt, u, fun w hw => ?_, keep a hy u, by rw [← Act.put_comm a v u h2]; exact hn⟩
  have := hu w hw
  rwa [execOp_put o hsj a oi.dst v h1] at this
theorem qOp_putU {j : Nat} {oi oj : Oper} {v : Value} {C' : World → Prop} (hj : ops[j]? = some oj) (hap : oi.apart ops oj = true)
    (hsi : ∀ cs b, oi.op ≠ .select cs b) (hsj : ∀ cs b, oj.op ≠ .select cs b) {K : Act → Prop} {a : Act}
    (hy : YieldsUp P ops C oi v a) (h : qOp P ops C' j K (a.put oi.dst v)) :
    qOp P ops C' j (fun a' => YieldsUp P ops C oi v a' ∧ K (a'.put oi.dst v)) a := by
  obtain ⟨h1, h2, h3⟩ := Oper.apart_spec hap
  have keep : ∀ (a : Act), YieldsUp P ops C oi v a → ∀ u, YieldsUp P ops C oi v (a.put oj.dst u) := fun a hy u =>
    hy.of_same (execOp_put oi hsi a oj.dst u h3) (wanted_put oi a oj.dst u h3)
  unfold qOp at *
  simp only [hj] at *
  rw [wanted_put oj a oi.dst v h1] at h
  split
  · rename_i hw
    simp only [hw, if_true] at h
    obtain ⟨u, hu, hn⟩ := h
    refine ⟨u, fun w hw' => ?_, keep a hy u, by rw [← Act.put_comm a v u h2]; exact hn⟩
    have := hu w hw'
    unfold Oper.quietAt at *
    rwa [execOp_put oj hsj a oi.dst v h1] at this
  · rename_i hw
    simp only [hw] at h
    exact ⟨keep a hy _, by rw [← Act.put_comm a v undef h2]; exact h⟩

theorem wpM_float {t : List Nat} {Q : Act → World → Prop} {i : Nat} {oi : Oper} {v : Value} (hi : ops[i]? = some oi) (hit : i ∉ t) (hsel : ∀ (j : Nat) (o : Oper) cs b, ops[j]? = some o → o.op ≠ .select cs b) :
    ∀ (f : Nat) (listed : Array Bool) (k : Nat) (a : Act), FreeOf md ops listed i oi → i ∈ Region.ready md ops listed → YieldsUp P ops C oi v a →
      wpM P md ops C t Q f (listed.setIfInBounds i true) k (a.put oi.dst v) → wpM P md ops C t Q (f + 1) listed k a := by
  intro f
  induction f with
  | zero =>
    intro listed k a _ hr hy H
    refine ⟨fun h => (by rw [h] at hr; cases hr), fun j hj => ?_⟩
    by_cases hji : j = i
    · subst hji; exact ⟨fun h => absurd h hit, fun _ => (hy.yin k).qOp hi H⟩
    · have := ready_mono hj hji
      rw [H.1] at this
      cases this
  | succ f ih =>
    intro listed k a hfree hr hy H
    refine ⟨fun h => (by rw [h] at hr; cases hr), fun j hj => ?_⟩
    by_cases hji : j = i
    · subst hji; exact ⟨fun h => absurd h hit, fun _ => (hy.yin k).qOp hi H⟩
    · have h1 := H.2 j (ready_mono hj hji)
      obtain ⟨hjun, oj, hoj, hall⟩ := mem_ready.1 hj
      have hap := hfree j oj hoj hji hjun (ready_not hr hoj hj)
      refine ⟨fun hjt => ?_, fun hjt => ?_⟩
      · have h2 := tOp_put hoj hap (fun cs b => hsel i oi cs b hi) (fun cs b => hsel j oj cs b hoj) hy (h1.1 hjt)
        refine tOp_mono (fun a' h3 => ih (listed.setIfInBounds j true) (k + 1) a' (hfree.set hjun) (ready_mono hr (Ne.symm hji)) h3.1 ?_) h2
        rw [Array.setIfInBounds_comm _ _ hji]
        exact h3.2
      · have h2 := qOp_putU hoj hap (fun cs b => hsel i oi cs b hi) (fun cs b => hsel j oj cs b hoj) hy (h1.2 hjt)
        refine qOp_mono (fun a' h3 => ih (listed.setIfInBounds j true) k a' (hfree.set hjun) (ready_mono hr (Ne.symm hji)) h3.1 ?_) h2
        rw [Array.setIfInBounds_comm _ _ hji]
        exact h3.2

/-- chain of t: each but the first waits for the one ahead -/
def chainL (md : Region.Mode) (ops : Array Oper) : List Nat → Bool
  | a :: b :: r => Region.waitsFor md ops b a && chainL md ops (b :: r)
  | _ => true
/-- t: what is still to come of the writes -/
theorem noTL {p t : List Nat} {e : Nat} {listed : Array Bool} (hpN : ∀ i ∈ p, i < ops.size) (htN : ∀ i ∈ e :: t, i < ops.size) (hs : sinkP md ops p e = true) (hc : chainL md ops (e :: t) = true) (inv : Inv0 md ops (e :: t) listed)
    {i : Nat} (hi : i ∈ p) (hun : listed.getD i true = false) : ∀ k ∈ e :: t, k ∉ Region.ready md ops listed := by
  have h0 : ∀ (d i : Nat), ops.size - i = d → i ∈ p → listed.getD i true = false → e ∉ Region.ready md ops listed := by
    intro d
    induction d using Nat.strongRecOn with
    | _ d ih =>
      intro i hd hi hun hr
      obtain ⟨_, ok, hok, hall⟩ := mem_ready.1 hr
      have h1 := List.all_eq_true.1 hs i hi
      obtain ⟨j, hj, hj2⟩ := List.any_eq_true.1 h1
      simp only [Bool.and_eq_true, decide_eq_true_eq] at hj2
      obtain ⟨oj, hoj, g, hg, hb, hon⟩ := Region.waitsFor_spec hj2.2
      rcases List.mem_append.1 hj with hj | hj
      · cases hl : listed.getD j false with
        | true =>
          have h2 := inv.closed j oj hoj hl g hg hb
          rw [hon, getD_both hun] at h2
          cases h2
        | false =>
          have hjs : j < listed.size := by rw [inv.size]; exact hpN j hj
          exact ih (ops.size - j) (by have := hpN j hj; omega) j rfl hj (getD_in hjs hl) hr
      · obtain rfl : j = e := by simpa using hj
        have : oj = ok := Option.some.inj (hoj.symm.trans hok)
        subst this
        have h2 := hall g hg hb
        rw [hon, getD_both hun] at h2
        cases h2
  have h1 : ∀ (t : List Nat) (e : Nat), chainL md ops (e :: t) = true → (∀ k ∈ e :: t, k < ops.size → listed.getD k true = false) → (∀ k ∈ e :: t, k < ops.size) → ∀ k ∈ t, k ∉ Region.ready md ops listed := by
    intro t
    induction t with
    | nil => intro e _ _ _ k hk; cases hk
    | cons b r ih =>
      intro e hc hn hN k hk hr
      simp only [chainL, Bool.and_eq_true] at hc
      rcases List.mem_cons.1 hk with rfl | hk
      · obtain ⟨_, ok, hok, hall⟩ := mem_ready.1 hr
        obtain ⟨o', ho', g, hg, hb, hon⟩ := Region.waitsFor_spec hc.1
        have : o' = ok := Option.some.inj (ho'.symm.trans hok)
        subst this
        have h2 := hall g hg hb
        rw [hon, getD_both (hn e (by simp) (hN e (by simp)))] at h2
        cases h2
      · exact ih b hc.2 (fun k hk => hn k (by simp at hk ⊢; exact .inr hk)) (fun k hk => hN k (by simp at hk ⊢; exact .inr hk)) k hk hr
  intro k hk
  rcases List.mem_cons.1 hk with rfl | hk
  · exact h0 _ i rfl hi hun
  · exact h1 t e hc inv.none htN k hk

theorem wpM_first {T p t : List Nat} {e : Nat} {Q : Act → World → Prop} {i : Nat} {oi : Oper} {v : Value} (hi : ops[i]? = some oi) (hip : i ∈ p) (hit : i ∉ T) (hsel : ∀ (j : Nat) (o : Oper) cs b, ops[j]? = some o → o.op ≠ .select cs b)
    (hpN : ∀ i ∈ p, i < ops.size) (htN : ∀ i ∈ e :: t, i < ops.size) (hs : sinkP md ops p e = true) (hc : chainL md ops (e :: t) = true) (hT : ∀ k ∈ e :: t, k ∈ T) {k : Nat} :
    ∀ (f : Nat) (listed : Array Bool) (a : Act), Inv0 md ops (e :: t) listed → (∀ j ∈ T, j ∉ e :: t → listed.getD j true = true) → FreeOf md ops listed i oi → i ∈ Region.ready md ops listed → YieldsIn P ops (C k) oi v a →
      wpM P md ops C T Q f (listed.setIfInBounds i true) k (a.put oi.dst v) → wpM P md ops C T Q (f + 1) listed k a := by
  intro f
  induction f with
  | zero =>
    intro listed a inv hdone _ hr hy H
    refine ⟨fun h => (by rw [h] at hr; cases hr), fun j hj => ?_⟩
    by_cases hji : j = i
    · subst hji; exact ⟨fun h => absurd h hit, fun _ => hy.qOp hi H⟩
    · have := ready_mono hj hji
      rw [H.1] at this
      cases this
  | succ f ih =>
    intro listed a inv hdone hfree hr hy H
    refine ⟨fun h => (by rw [h] at hr; cases hr), fun j hj => ?_⟩
    by_cases hji : j = i
    · subst hji; exact ⟨fun h => absurd h hit, fun _ => hy.qOp hi H⟩
    · have h1 := H.2 j (ready_mono hj hji)
      obtain ⟨hjun, oj, hoj, hall⟩ := mem_ready.1 hj
      have hap := hfree j oj hoj hji hjun (ready_not hr hoj hj)
      have hnot : j ∉ e :: t := fun h => noTL hpN htN hs hc inv hip (mem_ready.1 hr).1 j h hj
      have hjT : j ∉ T := fun h => by
        have := hdone j h hnot
        rw [hjun] at this
        cases this
      refine ⟨fun hjt => absurd hjt hjT, fun hjt => ?_⟩
      have h2 := qOp_put hoj hap (fun cs b => hsel i oi cs b hi) (fun cs b => hsel j oj cs b hoj) hy (h1.2 hjt)
      refine qOp_mono (fun a' h3 => ih (listed.setIfInBounds j true) a' (inv.set hj hnot) (fun m hm hm2 => ?_) (hfree.set hjun) (ready_mono hr (Ne.symm hji)) h3.1 ?_) h2
      · rw [getD_set_ne true (fun h => hjT (by rw [h]; exact hm))]; exact hdone m hm hm2
      · rw [Array.setIfInBounds_comm _ _ hji]
        exact h3.2

/-- the floats of a phase -/
def uList (P : Program) (ops : Array Oper) (C : Nat → World → Prop) (Q : Act → Prop) : List Oper → Act → Prop
  | [], a => Q a
  | o :: r, a => if Region.wanted o (yielded ops a.tmps) then ∃ v, (∀ k w, C k w → o.quietAt P a (C k) w v) ∧ uList P ops C Q r (a.put o.dst v) else uList P ops C Q r (a.put o.dst undef)
def tStep (P : Program) (ops : Array Oper) (C D : World → Prop) (K : Act → Prop) (o : Oper) (a : Act) : Prop :=
  Region.wanted o (yielded ops a.tmps) = true ∧ ∃ v, (∀ w, C w → tUpon P D v ((execOp a.eval o).run P w)) ∧ K (a.put o.dst v)
/-- the phases: quiet ones, floats, the write -/
def wpSegs (P : Program) (ops : Array Oper) (C : Nat → World → Prop) (Q : Act → World → Prop) (z : List Oper) : List (List Oper × List Oper × List Oper) → Nat → Act → Prop
  | [], k, a => uList P ops C (fun a' => ∀ w, C k w → Q a' w) z a
  | (p, f, t) :: r, k, a => wpQuiet P ops (C k) (uList P ops C (fun a' => match t with | [o] => tStep P ops (C k) (C (k + 1)) (wpSegs P ops C Q z r (k + 1)) o a' | _ => False) f) p a

def takes (md : Region.Mode) (ops : Array Oper) (T : List Nat) : List Nat → Array Bool → Option (Array Bool)
  | [], listed => some listed
  | i :: r, listed => if (Region.ready md ops listed).contains i && Region.free md ops listed i && !(T.contains i) && decide (i < ops.size) then takes md ops T r (listed.setIfInBounds i true) else none
def segsB (md : Region.Mode) (ops : Array Oper) (T : List Nat) (z : List Nat) : List (List Nat × List Nat × List Nat) → Array Bool → Bool
  | [], listed => match takes md ops T z listed with | some l => (Region.ready md ops l).isEmpty | none => false
  | (p, f, t) :: r, listed => match t with
    | [e] => sinkP md ops p e && (match takes md ops T (p ++ f) listed with | some l => decide (Region.ready md ops l = [e]) && segsB md ops T z r (l.setIfInBounds e true) | none => false)
    | _ => false
def segT : List (List Nat × List Nat × List Nat) → List Nat
  | [] => []
  | (_, _, t) :: r => t ++ segT r
def segN : List (List Nat × List Nat × List Nat) → Nat
  | [] => 0
  | (p, f, t) :: r => p.length + (f.length + (t.length + segN r))
def ReadsS (ops : Array Oper) : List (List Nat × List Nat × List Nat) → List (List Oper × List Oper × List Oper) → Prop
  | [], [] => True
  | (p, f, t) :: r, (p', f', t') :: r' => Reads ops p p' ∧ Reads ops f f' ∧ Reads ops t t' ∧ ReadsS ops r r'
  | _, _ => False

theorem takes_keeps {T : List Nat} : ∀ (q : List Nat) (listed l : Array Bool), takes md ops T q listed = some l → (∀ i ∈ q, i ∉ T) ∧ (∀ t, Inv0 md ops t listed → (∀ k ∈ t, k ∈ T) → Inv0 md ops t l) ∧ (∀ j ∈ T, listed.getD j true = true → l.getD j true = true)
  | [], listed, l, h => by
    obtain rfl : listed = l := by simpa [takes] using h
    exact ⟨fun _ h => (by cases h), fun _ h _ => h, fun _ _ h => h⟩
  | i :: q, listed, l, h => by
    unfold takes at h
    split at h
    case isFalse => cases h
    rename_i hc
    simp only [Bool.and_eq_true, Bool.not_eq_true', List.contains_eq_mem, decide_eq_true_eq, decide_eq_false_iff_not] at hc
    obtain ⟨⟨⟨hr, hf⟩, hit⟩, hN⟩ := hc
    obtain ⟨h1, h2, h3⟩ := takes_keeps q _ _ h
    refine ⟨fun k hk => ?_, fun t inv ht => h2 t (inv.set hr (fun h => hit (ht i h))) ht, fun j hj hl => h3 j hj ?_⟩
    · rcases List.mem_cons.1 hk with rfl | hk
      · exact hit
      · exact h1 k hk
    · rw [getD_set_ne true (fun h => hit (by rw [h]; exact hj))]; exact hl

/-- floats first -/
theorem wpM_floats {T : List Nat} {Q : Act → World → Prop} (hsel : Region.noSelect ops = true) {k : Nat} {K : Act → Prop} {n : Nat} {l' : Array Bool} (hK : ∀ a, K a → wpM P md ops C T Q n l' k a) :
    ∀ (f : List Nat) (lf : List Oper) (listed : Array Bool) (a : Act), Reads ops f lf → takes md ops T f listed = some l' → uList P ops C K lf a → wpM P md ops C T Q (f.length + n) listed k a
  | [], [], listed, a, _, ht, h => by
    obtain rfl : listed = l' := by simpa [takes] using ht
    simpa using hK a h
  | [], _ :: _, _, _, hR, _, _ => hR.elim
  | _ :: _, [], _, _, hR, _, _ => hR.elim
  | i :: f, o :: lf, listed, a, hR, ht, h => by
    unfold takes at ht
    split at ht
    case isFalse => cases ht
    rename_i hc
    simp only [Bool.and_eq_true, Bool.not_eq_true', List.contains_eq_mem, decide_eq_true_eq, decide_eq_false_iff_not] at hc
    obtain ⟨⟨⟨hr, hf⟩, hit⟩, hN⟩ := hc
    rw [List.length_cons, show f.length + 1 + n = (f.length + n) + 1 by omega]
    unfold uList at h
    by_cases hw : Region.wanted o (yielded ops a.tmps) = true
    · simp only [hw, if_true] at h
      obtain ⟨v, h1, h2⟩ := h
      exact wpM_float hR.1 hit (Region.noSelect_spec hsel) _ listed k a (Region.free_spec hR.1 hf) hr (.inl ⟨hw, h1⟩) (wpM_floats hsel hK f lf _ _ hR.2 ht h2)
    · simp only [hw] at h
      exact wpM_float hR.1 hit (Region.noSelect_spec hsel) _ listed k a (Region.free_spec hR.1 hf) hr (.inr ⟨by simpa using hw, rfl⟩) (wpM_floats hsel hK f lf _ _ hR.2 ht h)
theorem takes_app {T : List Nat} : ∀ (p f : List Nat) (listed : Array Bool), takes md ops T (p ++ f) listed = (takes md ops T p listed).bind (takes md ops T f)
  | [], f, listed => rfl
  | i :: p, f, listed => by
    simp only [List.cons_append, takes]
    split
    · exact takes_app p f _
    · rfl
/-- the quiet ones -/
theorem wpM_quiets {T p0 t : List Nat} {e : Nat} {Q : Act → World → Prop} (hsel : Region.noSelect ops = true) (hpN : ∀ i ∈ p0, i < ops.size) (htN : ∀ i ∈ e :: t, i < ops.size) (hs : sinkP md ops p0 e = true) (hc : chainL md ops (e :: t) = true) (hT : ∀ k ∈ e :: t, k ∈ T)
    {k : Nat} {K : Act → Prop} {n : Nat} {l' : Array Bool} (hK : ∀ a, K a → wpM P md ops C T Q n l' k a) :
    ∀ (q : List Nat) (lq : List Oper) (listed : Array Bool) (a : Act), (∀ i ∈ q, i ∈ p0) → Inv0 md ops (e :: t) listed → (∀ j ∈ T, j ∉ e :: t → listed.getD j true = true) → Reads ops q lq → takes md ops T q listed = some l' → wpQuiet P ops (C k) K lq a → wpM P md ops C T Q (q.length + n) listed k a
  | [], [], listed, a, _, _, _, _, ht, h => by
    obtain rfl : listed = l' := by simpa [takes] using ht
    simpa using hK a h
  | [], _ :: _, _, _, _, _, _, hR, _, _ => hR.elim
  | _ :: _, [], _, _, _, _, _, hR, _, _ => hR.elim
  | i :: q, o :: lq, listed, a, hq, inv, hdone, hR, ht, h => by
    unfold takes at ht
    split at ht
    case isFalse => cases ht
    rename_i hcc
    simp only [Bool.and_eq_true, Bool.not_eq_true', List.contains_eq_mem, decide_eq_true_eq, decide_eq_false_iff_not] at hcc
    obtain ⟨⟨⟨hr, hf⟩, hit⟩, hN⟩ := hcc
    rw [List.length_cons, show q.length + 1 + n = (q.length + n) + 1 by omega]
    have hst : qOp P ops (C k) i (wpQuiet P ops (C k) K lq) a := by unfold qOp; simp only [hR.1]; exact h
    obtain ⟨v, hy, hK'⟩ := yieldsIn_of_qOp hR.1 hst
    refine wpM_first hR.1 (hq i (by simp)) hit (Region.noSelect_spec hsel) hpN htN hs hc hT _ listed a inv hdone (Region.free_spec hR.1 hf) hr hy
      (wpM_quiets hsel hpN htN hs hc hT hK q lq _ _ (fun m hm => hq m (by simp [hm])) (inv.set hr (fun h => hit (hT i h))) (fun m hm hm2 => ?_) hR.2 ht hK')
    rw [getD_set_ne true (fun h => hit (by rw [h]; exact hm))]; exact hdone m hm hm2
theorem takes_lt {T : List Nat} : ∀ (q : List Nat) (listed l : Array Bool), takes md ops T q listed = some l → ∀ i ∈ q, i < ops.size
  | [], _, _, _, _, h => by cases h
  | i :: q, listed, l, h, k, hk => by
    unfold takes at h
    split at h
    case isFalse => cases h
    rename_i hc
    simp only [Bool.and_eq_true, decide_eq_true_eq] at hc
    rcases List.mem_cons.1 hk with rfl | hk
    · exact hc.2
    · exact takes_lt q _ _ h k hk

theorem wpM_segs {T z : List Nat} {lz : List Oper} {Q : Act → World → Prop} (hsel : Region.noSelect ops = true) (hRz : Reads ops z lz) (hTN : ∀ i ∈ T, i < ops.size) (hnd : T.Nodup) :
    ∀ (s : List (List Nat × List Nat × List Nat)) (ls : List (List Oper × List Oper × List Oper)) (k : Nat) (listed : Array Bool) (a : Act) (pre : List Nat), T = pre ++ segT s → chainL md ops (segT s) = true → ReadsS ops s ls → segsB md ops T z s listed = true →
      Inv0 md ops (segT s) listed → (∀ j ∈ pre, listed.getD j true = true) → wpSegs P ops C Q lz ls k a → wpM P md ops C T Q (segN s + z.length) listed k a
  | [], [], k, listed, a, pre, hT, _, _, hB, inv, hpre, h => by
    unfold segsB at hB
    split at hB
    case h_2 => cases hB
    rename_i l hl
    have := wpM_floats (md := md) (n := 0) (Q := Q) hsel (fun a (h : ∀ w, C k w → Q a w) => (⟨by simpa using hB, h⟩ : wpM P md ops C T Q 0 l k a)) z lz listed a hRz hl h
    simpa [segN] using this
  | [], _ :: _, _, _, _, _, _, _, hR, _, _, _, _ => hR.elim
  | _ :: _, [], _, _, _, _, _, _, hR, _, _, _, _ => hR.elim
  | (p, f, t) :: s, (lp, lf, lt) :: ls, k, listed, a, pre, hT, hc, hR, hB, inv, hpre, h => by
    obtain ⟨hRp, hRf, hRt, hRs⟩ := hR
    unfold segsB at hB
    cases t with
    | nil => cases hB
    | cons e t1 =>
      cases t1 with
      | cons _ _ => cases hB
      | nil =>
        simp only [Bool.and_eq_true] at hB
        obtain ⟨hs, hB⟩ := hB
        split at hB
        case h_2 => cases hB
        rename_i l2 hl2
        simp only [Bool.and_eq_true, decide_eq_true_eq] at hB
        obtain ⟨hrd, hB⟩ := hB
        rw [takes_app] at hl2
        obtain ⟨l1, hl1, hl2⟩ := Option.bind_eq_some_iff.1 hl2
        have hsub : ∀ m ∈ e :: segT s, m ∈ T := fun m hm => by rw [hT]; exact List.mem_append_right _ hm
        have hk1 := takes_keeps p listed l1 hl1
        have hk2 := takes_keeps f l1 l2 hl2
        have inv2 : Inv0 md ops (e :: segT s) l2 := hk2.2.1 _ (hk1.2.1 _ inv hsub) hsub
        have hpre2 : ∀ j ∈ pre, l2.getD j true = true := fun j hj => hk2.2.2 j (by rw [hT]; exact List.mem_append_left _ hj) (hk1.2.2 j (by rw [hT]; exact List.mem_append_left _ hj) (hpre j hj))
        have heT : e ∈ T := hsub e (by simp)
        have heN := hTN e heT
        cases lt with
        | nil => exact hRt.elim
        | cons o lt1 =>
          cases lt1 with
          | cons _ _ => exact hRt.2.elim
          | nil =>
            have ho := hRt.1
            have hnd2 : (e :: segT s).Nodup := by
              have : (pre ++ (e :: segT s)).Nodup := by rw [hT] at hnd; exact hnd
              exact (List.nodup_append.1 this).2.1
            have tail : ∀ a, tStep P ops (C k) (C (k + 1)) (wpSegs P ops C Q lz ls (k + 1)) o a → wpM P md ops C T Q (1 + (segN s + z.length)) l2 k a := fun a ht => by
              rw [Nat.add_comm]
              refine ⟨fun h1 => (by rw [hrd] at h1; cases h1), fun j hj => ?_⟩
              rw [hrd] at hj
              obtain rfl : j = e := by simpa using hj
              refine ⟨fun _ => ?_, fun h => absurd heT h⟩
              obtain ⟨hwt, v, h1, h2⟩ := ht
              refine ⟨o, ho, hwt, v, h1, ?_⟩
              have her : j ∈ Region.ready md ops l2 := by rw [hrd]; simp
              refine wpM_segs hsel hRz hTN hnd s ls (k + 1) _ _ (pre ++ [j]) (by rw [hT, List.append_assoc]; rfl) ?_ hRs hB ?_ ?_ h2
              · change chainL md ops (j :: segT s) = true at hc
                cases hq : segT s with
                | nil => rfl
                | cons b r => rw [hq] at hc; simp only [chainL, Bool.and_eq_true] at hc; exact hc.2
              · have inv3 : Inv0 md ops (segT s) l2 := ⟨inv2.size, inv2.closed, fun m hm => inv2.none m (by simp [hm])⟩
                exact inv3.set her (fun h => (List.nodup_cons.1 hnd2).1 h)
              · intro m hm
                by_cases hmj : m = j
                · subst hmj
                  have : m < l2.size := by rw [inv2.size]; exact heN
                  simp [this]
                · rw [getD_set_ne true (Ne.symm hmj)]
                  rcases List.mem_append.1 hm with hm | hm
                  · exact hpre2 m hm
                  · exact absurd (by simpa using hm) hmj
            have hK := fun a => wpM_floats (md := md) (n := 1 + (segN s + z.length)) (Q := Q) hsel tail f lf l1 a hRf hl2
            have key := wpM_quiets (md := md) hsel (takes_lt p listed l1 hl1) (fun m hm => hTN m (hsub m hm)) hs hc hsub hK p lp listed a (fun _ h => h) inv (fun j hj hj2 => hpre j (by
              rw [hT] at hj
              rcases List.mem_append.1 hj with hj | hj
              · exact hj
              · exact absurd hj hj2)) hRp hl1 h
            have hn : segN ((p, f, [e]) :: s) + z.length = p.length + (f.length + (1 + (segN s + z.length))) := by simp only [segN, List.length_cons, List.length_nil]; omega
            rw [hn]
            exact key

def pickS (m : List (List Bool × List Bool × List Bool)) (l : List Oper) : List (List Oper × List Oper × List Oper) := m.map fun x => (pick x.1 l, pick x.2.1 l, pick x.2.2 l)
def idxS (m : List (List Bool × List Bool × List Bool)) : List (List Nat × List Nat × List Nat) := m.map fun x => (idx x.1 0, idx x.2.1 0, idx x.2.2 0)
def nodupB : List Nat → Bool
  | [] => true
  | a :: r => !(r.contains a) && nodupB r
theorem nodupB_spec : ∀ l : List Nat, nodupB l = true → l.Nodup
  | [], _ => List.nodup_nil
  | a :: r, h => by
    simp only [nodupB, Bool.and_eq_true, Bool.not_eq_true', List.contains_eq_mem, decide_eq_false_iff_not] at h
    exact List.nodup_cons.2 ⟨h.1, nodupB_spec r h.2⟩
def phB (md : Region.Mode) (ops : Array Oper) (s : List (List Nat × List Nat × List Nat)) (z : List Nat) : Bool :=
  Region.noSelect ops && decide (segN s + z.length = ops.size) && (segT s).all (fun i => decide (i < ops.size)) && nodupB (segT s) && chainL md ops (segT s) && segsB md ops (segT s) z s (Array.replicate ops.size false)

/-- THE LAW, for as many phases as there are writes. -/
theorem region_phases {id : Nat} {Q : Exit → Act → World → Prop} {a : Act} {w : World} {l : List Oper} (m : List (List Bool × List Bool × List Bool)) (mz : List Bool) (hm : P.follows .mixedOrders = true)
    (hlen : (m.all (fun x => decide (x.1.length ≤ l.length) && decide (x.2.1.length ≤ l.length) && decide (x.2.2.length ≤ l.length)) && decide (mz.length ≤ l.length)) = true)
    (hB : phB .any l.toArray (idxS m) (idx mz 0) = true) (hC : C 0 w.drew)
    (h : wpSegs P l.toArray C (fun a w => Q .normal a w) (pick mz l) (pickS m l) 0 a) : (Code.region id l.toArray true).wp P Q a w := by
  simp only [Bool.and_eq_true, List.all_eq_true, decide_eq_true_eq] at hlen
  have hr := fun m (hm : m.length ≤ l.length) => pick_reads (ops := l.toArray) m l 0 hm (fun j hj => by simp)
  have hRz := hr mz hlen.2
  have hRS : ∀ m : List (List Bool × List Bool × List Bool), (∀ x ∈ m, (x.1.length ≤ l.length ∧ x.2.1.length ≤ l.length) ∧ x.2.2.length ≤ l.length) → ReadsS l.toArray (idxS m) (pickS m l) := by
    intro m
    induction m with
    | nil => intro _; trivial
    | cons x r ih => intro hx; have h1 := hx x (by simp); exact ⟨hr _ h1.1.1, hr _ h1.1.2, hr _ h1.2, ih (fun y hy => hx y (by simp [hy]))⟩
  have hRs := hRS m hlen.1
  simp only [phB, Bool.and_eq_true, decide_eq_true_eq, List.all_eq_true] at hB
  obtain ⟨⟨⟨⟨⟨hsel, hsz⟩, htN⟩, hnd⟩, hc⟩, hseg⟩ := hB
  refine wp_region_any hm ?_
  have key := wpM_segs (Q := fun a w => Q .normal a w) hsel hRz htN (nodupB_spec _ hnd) (idxS m) (pickS m l) 0 _ a [] rfl hc hRs hseg
    ⟨by simp, fun j oj _ hl => (by rw [getD_replicate_false] at hl; cases hl), fun k hk hk' => getD_in (by simpa using hk') (getD_replicate_false _ _)⟩ (fun _ h => by cases h) h
  rw [hsz] at key
  exact wpAny_of_wpM (fun _ _ h => h) _ _ _ _ _ hC key
end
end Go.Proofs.Ytdocbmgledebaaa
