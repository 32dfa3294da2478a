/-
  A region that draws its order: ONE WALK IN THE ORDER OF THE TEXT serves every order, if each two operations that turn the world wait for one another, and the others yield, in every world of a family, one value.
-/
import Derived.Deep.QuietTactic
namespace Go.Proofs.Ytdocbmgledebaaa
set_option linter.unusedVariables false
set_option linter.unusedSimpArgs false
open Go
section
variable {P : Program} {ops : Array Oper} {md : Region.Mode} {T : Type} {f : T → World}

/-- an operation: one that turns the world (b), or one that yields a value in every world of the family -/
def stepW (P : Program) (ops : Array Oper) (f : T → World) (b : Bool) (o : Oper) (K : Act → World → Prop) (a : Act) (w : World) : Prop :=
  if Region.wanted o (yielded ops a.tmps) = true then
    (match b with
     | true => o.wp P a w (fun a' w' => (∃ s, w' = f s) ∧ K a' w') (fun _ _ _ => False)
     | false => ∃ v, (∀ s, (execOp a.eval o).run P (f s) = .ok (.value v) (f s)) ∧ K (a.put o.dst v) w)
  else K (a.put o.dst undef) w
def wlk (P : Program) (ops : Array Oper) (f : T → World) (Q : Act → World → Prop) : List (Bool × Oper) → Act → World → Prop
  | [], a, w => Q a w
  | (b, o) :: r, a, w => stepW P ops f b o (wlk P ops f Q r) a w

def Act.more (dd : List Deferred) (a : Act) : Act := { a with defers := dd ++ a.defers }
theorem Act.more_put (dd : List Deferred) (a : Act) (d : Option Tmp) (v : Value) : Act.more dd (a.put d v) = (Act.more dd a).put d v := by cases d <;> rfl
theorem Act.more_eval (dd : List Deferred) (a : Act) : (Act.more dd a).eval = a.eval := by funext x; cases x <;> rfl
theorem Act.more_tmps (dd : List Deferred) (a : Act) : (Act.more dd a).tmps = a.tmps := rfl

/-- what an operation that turns the world may leave -/
theorem wp_some {o : Oper} {a : Act} {w : World} {K : Act → World → Prop} (h : o.wp P a w K (fun _ _ _ => False)) : ∃ dd u w', K ((Act.more dd a).put o.dst u) w' := by
  unfold Oper.wp at h
  generalize (execOp a.eval o).run P w = r at h
  cases r with
  | ok n w' =>
    cases n <;> simp only [Oper.upon] at h
    case value v => exact ⟨[], v, w', h⟩
    case skip => exact ⟨[], undef, w', h⟩
    case defer d => exact ⟨[d], undef, w', h⟩
    case enter g args =>
      obtain ⟨e, w'', fr, hR, _⟩ := h []
      cases e with
      | returned v => exact ⟨[], v, w'', hR⟩
      | panicked c => exact hR.elim
      | outgrown => obtain ⟨_, _, hh⟩ := hR; exact hh.elim
    case row rw args =>
      obtain ⟨v, w'', hR, _⟩ := h default []
      exact ⟨[], v, w'', hR⟩
  | halt x w' => cases x <;> simp only [Oper.upon] at h
theorem wp_move {o : Oper} {a : Act} {w : World} {K K' : Act → World → Prop} (d : Option Tmp) (v : Value) (hs : ∀ cs b, o.op ≠ .select cs b) (hd : ∀ t, d = some t → t ∉ o.looksAt ops)
    (h : o.wp P a w K (fun _ _ _ => False)) (hK : ∀ dd u w', K ((Act.more dd a).put o.dst u) w' → K' ((Act.more dd (a.put d v)).put o.dst u) w') : o.wp P (a.put d v) w K' (fun _ _ _ => False) := by
  unfold Oper.wp at *
  rw [execOp_put o hs a d v hd]
  generalize (execOp a.eval o).run P w = r at *
  cases r with
  | ok n w' =>
    cases n <;> simp only [Oper.upon] at h ⊢
    case value u => exact hK [] u w' h
    case skip => exact hK [] undef w' h
    case defer x => exact hK [x] undef w' h
    case enter g args =>
      refine Calls.mono h (fun e w'' he => ?_)
      cases e with
      | returned v' => exact hK [] v' w'' he
      | panicked c => exact he
      | outgrown => exact he
    case row rw args => exact Rows.mono h (fun v' w'' he => hK [] v' w'' he)
  | halt x w' => cases x <;> simp only [Oper.upon] at h ⊢
theorem wp_back {o : Oper} {a : Act} {w : World} {K K' : Act → World → Prop} (d : Option Tmp) (v : Value) (hs : ∀ cs b, o.op ≠ .select cs b) (hd : ∀ t, d = some t → t ∉ o.looksAt ops)
    (h : o.wp P (a.put d v) w K (fun _ _ _ => False)) (hK : ∀ dd u w', K ((Act.more dd (a.put d v)).put o.dst u) w' → K' ((Act.more dd a).put o.dst u) w') : o.wp P a w K' (fun _ _ _ => False) := by
  unfold Oper.wp at *
  rw [execOp_put o hs a d v hd] at h
  generalize (execOp a.eval o).run P w = r at *
  cases r with
  | ok n w' =>
    cases n <;> simp only [Oper.upon] at h ⊢
    case value u => exact hK [] u w' h
    case skip => exact hK [] undef w' h
    case defer x => exact hK [x] undef w' h
    case enter g args =>
      refine Calls.mono h (fun e w'' he => ?_)
      cases e with
      | returned v' => exact hK [] v' w'' he
      | panicked c => exact he
      | outgrown => exact he
    case row rw args => exact Rows.mono h (fun v' w'' he => hK [] v' w'' he)
  | halt x w' => cases x <;> simp only [Oper.upon] at h ⊢

theorem stepW_mono {b : Bool} {o : Oper} {K K' : Act → World → Prop} {a : Act} {w : World} (hk : ∀ a w, K a w → K' a w) (h : stepW P ops f b o K a w) : stepW P ops f b o K' a w := by
  unfold stepW at *
  split
  · rename_i hw
    rw [if_pos hw] at h
    cases b with
    | true => exact Oper.wp_mono (fun a w hh => ⟨hh.1, hk _ _ hh.2⟩) h
    | false => obtain ⟨v, h1, h2⟩ := h; exact ⟨v, h1, hk _ _ h2⟩
  · rename_i hw
    rw [if_neg hw] at h
    exact hk _ _ h

theorem exec_more (o : Oper) (hs : ∀ cs b, o.op ≠ .select cs b) (dd : List Deferred) (a : Act) (d : Option Tmp) (u : Value) (hd : ∀ t, d = some t → t ∉ o.looksAt ops) :
    execOp ((Act.more dd a).put d u).eval o = execOp a.eval o := by rw [← Act.more_put, Act.more_eval]; exact execOp_put o hs a d u hd
theorem wanted_more (o : Oper) (dd : List Deferred) (a : Act) (d : Option Tmp) (u : Value) (hd : ∀ t, d = some t → t ∉ o.looksAt ops) :
    Region.wanted o (yielded ops ((Act.more dd a).put d u).tmps) = Region.wanted o (yielded ops a.tmps) := by rw [← Act.more_put, Act.more_tmps]; exact wanted_put o a d u hd

theorem swap [hne : Nonempty T] {bx bz : Bool} {ox oz : Oper} {K : Act → World → Prop} {a : Act} {w : World} (hap : ox.apart ops oz = true) (hb : (bx && bz) = false)
    (hsx : ∀ cs b, ox.op ≠ .select cs b) (hsz : ∀ cs b, oz.op ≠ .select cs b) (h : stepW P ops f bx ox (stepW P ops f bz oz K) a w) : stepW P ops f bz oz (stepW P ops f bx ox K) a w := by
  obtain ⟨h1, h2, h3⟩ := Oper.apart_spec hap
  have h2' : ∀ d, oz.dst = some d → ox.dst ≠ some d := fun d hd he => h2 d he hd
  obtain ⟨s0⟩ := hne
  by_cases hx : Region.wanted ox (yielded ops a.tmps) = true
  · cases bx with
    | false =>
      unfold stepW at h
      rw [if_pos hx] at h
      obtain ⟨v, hv, h⟩ := h
      unfold stepW
      rw [wanted_put oz a ox.dst v h1] at h
      split
      · rename_i hz
        rw [if_pos hz] at h
        cases bz with
        | true =>
          refine wp_back ox.dst v hsz h1 h (fun dd u w' hh => ⟨hh.1, ?_⟩)
          rw [wanted_more ox dd a oz.dst u h3, if_pos hx]
          refine ⟨v, fun s => ?_, ?_⟩
          · rw [exec_more ox hsx dd a oz.dst u h3]; exact hv s
          · have := hh.2
            rw [Act.more_put, Act.put_comm _ _ _ h2] at this
            exact this
        | false =>
          obtain ⟨u, hu, h⟩ := h
          refine ⟨u, fun s => by rw [← hu s, execOp_put oz hsz a ox.dst v h1], ?_⟩
          rw [wanted_put ox a oz.dst u h3, if_pos hx]
          exact ⟨v, fun s => by rw [execOp_put ox hsx a oz.dst u h3]; exact hv s, by rw [← Act.put_comm a v u h2]; exact h⟩
      · rename_i hz
        rw [if_neg hz] at h
        rw [wanted_put ox a oz.dst undef h3, if_pos hx]
        exact ⟨v, fun s => by rw [execOp_put ox hsx a oz.dst undef h3]; exact hv s, by rw [← Act.put_comm a v undef h2]; exact h⟩
    | true =>
      obtain rfl : bz = false := by simpa using hb
      unfold stepW at h
      rw [if_pos hx] at h
      obtain ⟨dd0, u0, w0, ⟨_, hh0⟩⟩ := wp_some h
      have hh0 : stepW P ops f false oz K ((Act.more dd0 a).put ox.dst u0) w0 := hh0
      unfold stepW at hh0
      rw [wanted_more oz dd0 a ox.dst u0 h1] at hh0
      unfold stepW
      split
      · rename_i hz
        rw [if_pos hz] at hh0
        obtain ⟨v, hv, _⟩ := hh0
        rw [exec_more oz hsz dd0 a ox.dst u0 h1] at hv
        refine ⟨v, hv, ?_⟩
        rw [wanted_put ox a oz.dst v h3, if_pos hx]
        refine wp_move oz.dst v hsx h3 h (fun dd u w' hh => ⟨hh.1, ?_⟩)
        have h5 : stepW P ops f false oz K ((Act.more dd a).put ox.dst u) w' := hh.2
        unfold stepW at h5
        rw [wanted_more oz dd a ox.dst u h1, if_pos hz] at h5
        obtain ⟨v', hv', h6⟩ := h5
        rw [exec_more oz hsz dd a ox.dst u h1] at hv'
        have e := hv s0
        rw [hv' s0] at e
        obtain rfl : v' = v := by injection e with e; injection e
        rw [Act.more_put, ← Act.put_comm _ _ _ h2]
        exact h6
      · rename_i hz
        rw [wanted_put ox a oz.dst undef h3, if_pos hx]
        refine wp_move oz.dst undef hsx h3 h (fun dd u w' hh => ⟨hh.1, ?_⟩)
        have h5 : stepW P ops f false oz K ((Act.more dd a).put ox.dst u) w' := hh.2
        unfold stepW at h5
        rw [wanted_more oz dd a ox.dst u h1, if_neg hz] at h5
        rw [Act.more_put, ← Act.put_comm _ _ _ h2]
        exact h5
  · unfold stepW at h
    rw [if_neg hx, wanted_put oz a ox.dst undef h1] at h
    unfold stepW
    split
    · rename_i hz
      rw [if_pos hz] at h
      cases bz with
      | true =>
        refine wp_back ox.dst undef hsz h1 h (fun dd u w' hh => ⟨hh.1, ?_⟩)
        rw [wanted_more ox dd a oz.dst u h3, if_neg hx]
        have := hh.2
        rw [Act.more_put, Act.put_comm _ _ _ h2] at this
        exact this
      | false =>
        obtain ⟨u, hu, h⟩ := h
        refine ⟨u, fun s => by rw [← hu s, execOp_put oz hsz a ox.dst undef h1], ?_⟩
        rw [wanted_put ox a oz.dst u h3, if_neg hx, ← Act.put_comm a undef u h2]
        exact h
    · rename_i hz
      rw [if_neg hz] at h
      rw [wanted_put ox a oz.dst undef h3, if_neg hx, ← Act.put_comm a undef undef h2]
      exact h

theorem front [Nonempty T] (hsel : Region.noSelect ops = true) {Q : Act → World → Prop} {b : Bool} {o : Oper} {post : List (Bool × Oper)} (ho : ∀ cs b, o.op ≠ .select cs b) :
    ∀ (pre : List (Bool × Oper)) (a : Act) (w : World), (∀ y ∈ pre, y.2.apart ops o = true ∧ (y.1 && b) = false ∧ ∀ cs b, y.2.op ≠ .select cs b) → wlk P ops f Q (pre ++ (b, o) :: post) a w → stepW P ops f b o (wlk P ops f Q (pre ++ post)) a w
  | [], a, w, _, h => h
  | (by_, oy) :: pre, a, w, hp, h => by
    have h1 : stepW P ops f by_ oy (wlk P ops f Q (pre ++ (b, o) :: post)) a w := h
    have h2 := stepW_mono (fun a w hh => front hsel ho pre a w (fun y hy => hp y (List.mem_cons_of_mem _ hy)) hh) h1
    obtain ⟨k1, k2, k3⟩ := hp _ (List.mem_cons_self ..)
    exact swap k1 k2 k3 ho h2

/-- i waits for j -/
inductive Dep (md : Region.Mode) (ops : Array Oper) : Nat → Nat → Prop
  | one {i : Nat} {o : Oper} {e : Edge} : ops[i]? = some o → e ∈ o.after → Region.binds md e = true → Dep md ops i e.on
  | more {i j : Nat} {o : Oper} {e : Edge} : ops[i]? = some o → e ∈ o.after → Region.binds md e = true → Dep md ops e.on j → Dep md ops i j
def Closed (md : Region.Mode) (ops : Array Oper) (listed : Array Bool) : Prop := ∀ j oj, ops[j]? = some oj → listed.getD j false = true → ∀ e ∈ oj.after, Region.binds md e = true → listed.getD e.on false = true
theorem Dep.un {listed : Array Bool} (hc : Closed md ops listed) {i j : Nat} (h : Dep md ops i j) : listed.getD j false = false → listed.getD i false = false := by
  induction h with
  | one ho he hb => intro hj; cases hi : listed.getD _ false with
    | false => rfl
    | true => rw [hc _ _ ho hi _ he hb] at hj; cases hj
  | more ho he hb _ ih => intro hj; cases hi : listed.getD _ false with
    | false => rfl
    | true => rw [hc _ _ ho hi _ he hb] at ih; cases ih hj
theorem Dep.not_ready {listed : Array Bool} (hc : Closed md ops listed) {i j : Nat} (h : Dep md ops i j) (hj : listed.getD j false = false) : i ∉ Region.ready md ops listed := fun hr => by
  obtain ⟨_, o, ho, hall⟩ := mem_ready.1 hr
  cases h with
  | one ho' he hb =>
    obtain rfl := Option.some.inj (ho'.symm.trans ho)
    rw [hall _ he hb] at hj; cases hj
  | more ho' he hb hd =>
    obtain rfl := Option.some.inj (ho'.symm.trans ho)
    have := hd.un hc hj
    rw [hall _ he hb] at this; cases this

def Pair (md : Region.Mode) (ops : Array Oper) (x y : Nat × Bool × Oper) : Prop := x.1 < y.1 ∧ (Dep md ops y.1 x.1 ∨ (x.2.2.apart ops y.2.2 = true ∧ (x.2.1 && y.2.1) = false))
structure Left (md : Region.Mode) (ops : Array Oper) (listed : Array Bool) (rem : List (Nat × Bool × Oper)) : Prop where
  size : listed.size = ops.size
  mem : ∀ i, listed.getD i true = false ↔ ∃ x ∈ rem, x.1 = i
  valid : ∀ x ∈ rem, ops[x.1]? = some x.2.2
  closed : Closed md ops listed
  pairs : rem.Pairwise (Pair md ops)
theorem getD_tf {listed : Array Bool} {i : Nat} (h : i < listed.size) (h2 : listed.getD i true ≠ false) : listed.getD i false = true := by
  simp only [Array.getD, h, dif_pos] at *
  simpa using h2
theorem getD_ft {listed : Array Bool} {i : Nat} (h2 : listed.getD i true = false) : listed.getD i false = false := by
  unfold Array.getD at *
  split at h2
  · rename_i h; rw [dif_pos h]; exact h2
  · cases h2

theorem wpAny_of_wlk [Nonempty T] (hsel : Region.noSelect ops = true) (hback : ∀ i o, ops[i]? = some o → ∀ e ∈ o.after, Region.binds md e = true → e.on < i) {Q : Act → World → Prop} {Q' : Exit → Act → World → Prop} (hQ : ∀ a w, Q a w → Q' .normal a w) :
    ∀ (n : Nat) (rem : List (Nat × Bool × Oper)) (listed : Array Bool) (a : Act) (w : World), rem.length = n → Left md ops listed rem → (∃ s, w = f s) → wlk P ops f Q (rem.map (·.2)) a w → wpAny P md ops Q' n listed a w
  | 0, rem, listed, a, w, hn, hl, hw, h => by
    obtain rfl : rem = [] := List.eq_nil_of_length_eq_zero hn
    refine ⟨?_, hQ _ _ h⟩
    rw [List.eq_nil_iff_forall_not_mem]
    intro i hi
    obtain ⟨x, hx, _⟩ := (hl.mem i).1 (mem_ready.1 hi).1
    cases hx
  | n + 1, rem, listed, a, w, hn, hl, hw, h => by
    refine ⟨fun h0 => ?_, fun i hi => ?_⟩
    · exfalso
      cases rem with
      | nil => cases hn
      | cons x rest =>
        have hv := hl.valid x (List.mem_cons_self ..)
        have : x.1 ∈ Region.ready md ops listed := mem_ready.2 ⟨(hl.mem x.1).2 ⟨x, List.mem_cons_self .., rfl⟩, x.2.2, hv, fun e he hb => by
          have hlt := hback _ _ hv e he hb
          have hxs : x.1 < ops.size := (Array.getElem?_eq_some_iff.1 hv).1
          refine getD_tf (by rw [hl.size]; omega) (fun hf => ?_)
          obtain ⟨y, hy, hye⟩ := (hl.mem _).1 hf
          rcases List.mem_cons.1 hy with rfl | hy
          · omega
          · have := (List.rel_of_pairwise_cons hl.pairs hy).1
            omega⟩
        rw [h0] at this
        cases this
    · obtain ⟨hun, oi, hoi, hall⟩ := mem_ready.1 hi
      obtain ⟨x, hx, rfl⟩ := (hl.mem i).1 hun
      obtain ⟨pre, post, rfl⟩ := List.append_of_mem hx
      obtain rfl := Option.some.inj (hoi.symm.trans (hl.valid x hx))
      obtain ⟨i, b, o⟩ := x
      have hpw := List.pairwise_append.1 hl.pairs
      have hpre : ∀ y ∈ pre.map (fun x : Nat × Bool × Oper => x.2), y.2.apart ops o = true ∧ (y.1 && b) = false ∧ ∀ cs b, y.2.op ≠ .select cs b := fun y hy => by
        obtain ⟨z, hz, rfl⟩ := List.mem_map.1 hy
        have hzv := hl.valid z (List.mem_append_left _ hz)
        obtain ⟨_, hd | hd⟩ := hpw.2.2 z hz (i, b, o) (List.mem_cons_self ..)
        · exact absurd hi (hd.not_ready hl.closed (getD_ft ((hl.mem z.1).2 ⟨z, List.mem_append_left _ hz, rfl⟩)))
        · exact ⟨hd.1, hd.2, fun cs b => Region.noSelect_spec hsel _ _ cs b hzv⟩
      rw [List.map_append, List.map_cons] at h
      have h1 := front hsel (fun cs b => Region.noSelect_spec hsel _ _ cs b hoi) _ a w hpre h
      rw [← List.map_append] at h1
      have hne : ∀ z ∈ pre ++ post, z.1 ≠ i := fun z hz he => by
        rcases List.mem_append.1 hz with hz | hz
        · have := (hpw.2.2 z hz (i, b, o) (List.mem_cons_self ..)).1
          simp only [he] at this
          omega
        · have := (List.rel_of_pairwise_cons hpw.2.1 hz).1
          simp only [he] at this
          omega
      have hsub : (pre ++ post).Sublist (pre ++ (i, b, o) :: post) := List.Sublist.append (List.Sublist.refl _) (List.sublist_cons_self ..)
      have his : i < listed.size := by rw [hl.size]; exact (Array.getElem?_eq_some_iff.1 hoi).1
      have hl' : Left md ops (listed.setIfInBounds i true) (pre ++ post) := by
        refine ⟨by simp [hl.size], fun k => ⟨fun hk => ?_, fun hk => ?_⟩, fun z hz => hl.valid z (hsub.subset hz), fun j oj hj hlj e he hb => ?_, hl.pairs.sublist hsub⟩
        · by_cases hki : i = k
          · subst hki
            rw [Array.getD_eq_getD_getElem?, Array.getElem?_setIfInBounds_self_of_lt his] at hk
            cases hk
          · rw [getD_set_ne true hki] at hk
            obtain ⟨z, hz, he⟩ := (hl.mem k).1 hk
            refine ⟨z, ?_, he⟩
            rcases List.mem_append.1 hz with hz | hz
            · exact List.mem_append_left _ hz
            · rcases List.mem_cons.1 hz with rfl | hz
              · exact absurd he hki
              · exact List.mem_append_right _ hz
        · obtain ⟨z, hz, he⟩ := hk
          have hki : i ≠ k := fun e => hne z hz (by rw [he, e])
          rw [getD_set_ne true hki]
          exact (hl.mem k).2 ⟨z, hsub.subset hz, he⟩
        · by_cases hji : i = j
          · subst hji
            obtain rfl := Option.some.inj (hoi.symm.trans hj)
            exact getD_set_true (hall e he hb)
          · rw [getD_set_ne false hji] at hlj
            exact getD_set_true (hl.closed j oj hj hlj e he hb)
      have hlen : (pre ++ post).length = n := by simp at hn ⊢; omega
      have IH := fun a' w' hw' hh => wpAny_of_wlk hsel hback hQ n (pre ++ post) (listed.setIfInBounds i true) a' w' hlen hl' hw' hh
      unfold wpOp
      simp only [hoi]
      unfold stepW at h1
      split
      · rename_i hwt
        rw [if_pos hwt] at h1
        refine .inl ?_
        cases b with
        | true =>
          have h2 := Oper.wp_mono (fun a' w' hh => IH a' w' hh.1 hh.2) h1
          unfold Oper.wp at h2 ⊢
          generalize (execOp a.eval o).run P w = r at h2 ⊢
          cases r with
          | ok nn w' =>
            cases nn <;> simp only [Oper.upon] at h2 ⊢
            case value u => exact h2
            case skip => exact h2
            case defer x => exact h2
            case enter g args =>
              refine Calls.mono h2 (fun e w'' he => ?_)
              cases e with
              | returned v' => exact he
              | panicked c => exact he.elim
              | outgrown => obtain ⟨_, _, hh⟩ := he; exact hh.elim
            case row rw args => exact h2
          | halt x w' => cases x <;> simp only [Oper.upon] at h2
        | false =>
          obtain ⟨v, hv, h2⟩ := h1
          obtain ⟨s, rfl⟩ := hw
          unfold Oper.wp
          rw [hv s]
          exact IH _ _ ⟨s, rfl⟩ h2
      · rename_i hwt
        rw [if_neg hwt] at h1
        exact IH _ _ hw h1

/-! ### the check -/
def reach (md : Region.Mode) (ops : Array Oper) (i : Nat) : List Nat → List Nat → List Nat
  | [], R => R
  | k :: l, R => reach md ops i l (match ops[k]? with | some o => if o.after.any (fun e => Region.binds md e && R.contains e.on) then k :: R else R | none => R)
theorem reach_dep (i : Nat) : ∀ (l R : List Nat), (∀ k ∈ R, k = i ∨ Dep md ops k i) → ∀ k ∈ reach md ops i l R, k = i ∨ Dep md ops k i
  | [], R, h => h
  | k :: l, R, h => by
    unfold reach
    refine reach_dep i l _ ?_
    split
    · rename_i o ho
      split
      · rename_i hb
        intro k' hk'
        rcases List.mem_cons.1 hk' with rfl | hk'
        · simp only [Array.any_eq_true, Bool.and_eq_true, List.contains_iff_mem] at hb
          obtain ⟨j, hj, hb1, hb2⟩ := hb
          right
          rcases h _ hb2 with he | hd
          · rw [← he]; exact Dep.one ho (Array.getElem_mem hj) hb1
          · exact Dep.more ho (Array.getElem_mem hj) hb1 hd
        · exact h k' hk'
      · exact h
    · exact h
def pairsB (md : Region.Mode) (ops : Array Oper) : List (Nat × Bool × Oper) → Bool
  | [] => true
  | x :: r => (let R := reach md ops x.1 (r.map (·.1)) [x.1]; r.all fun y => R.contains y.1 || (x.2.2.apart ops y.2.2 && !(x.2.1 && y.2.1))) && pairsB md ops r
def number : List Bool → Nat → List Oper → List (Nat × Bool × Oper)
  | _, _, [] => []
  | m, k, o :: l => (k, m.headD false, o) :: number m.tail (k + 1) l
def masked : List Bool → List Oper → List (Bool × Oper)
  | _, [] => []
  | m, o :: l => (m.headD false, o) :: masked m.tail l
theorem number_masked : ∀ (m : List Bool) (k : Nat) (l : List Oper), (number m k l).map (·.2) = masked m l
  | _, _, [] => rfl
  | m, k, o :: l => by simp only [number, masked, List.map_cons, number_masked]
theorem number_len : ∀ (m : List Bool) (k : Nat) (l : List Oper), (number m k l).length = l.length
  | _, _, [] => rfl
  | m, k, o :: l => by simp only [number, List.length_cons, number_len]
theorem number_mem : ∀ (m : List Bool) (k : Nat) (l : List Oper) (x : Nat × Bool × Oper), x ∈ number m k l → k ≤ x.1 ∧ l[x.1 - k]? = some x.2.2
  | _, _, [], x, h => by cases h
  | m, k, o :: l, x, h => by
    rcases List.mem_cons.1 h with rfl | h
    · simp
    · obtain ⟨h1, h2⟩ := number_mem m.tail (k + 1) l x h
      refine ⟨by omega, ?_⟩
      rw [show x.1 - k = (x.1 - (k + 1)) + 1 by omega]
      simpa using h2
theorem number_has : ∀ (m : List Bool) (k : Nat) (l : List Oper) (i : Nat), k ≤ i → i < k + l.length → ∃ x ∈ number m k l, x.1 = i
  | _, _, [], i, h1, h2 => by simp at h2; omega
  | m, k, o :: l, i, h1, h2 => by
    by_cases e : k = i
    · exact ⟨_, List.mem_cons_self .., e⟩
    · obtain ⟨x, hx, he⟩ := number_has m.tail (k + 1) l i (by omega) (by simp at h2; omega)
      exact ⟨x, List.mem_cons_of_mem _ hx, he⟩
theorem number_lt : ∀ (m : List Bool) (k : Nat) (l : List Oper), (number m k l).Pairwise (fun x y => x.1 < y.1)
  | _, _, [] => List.Pairwise.nil
  | m, k, o :: l => List.Pairwise.cons (fun y hy => by have := (number_mem _ _ _ y hy).1; simp only; omega) (number_lt m.tail (k + 1) l)
theorem pairsB_spec : ∀ (l : List (Nat × Bool × Oper)), l.Pairwise (fun x y => x.1 < y.1) → pairsB md ops l = true → l.Pairwise (Pair md ops)
  | [], _, _ => List.Pairwise.nil
  | x :: r, hp, h => by
    simp only [pairsB, Bool.and_eq_true, List.all_eq_true, Bool.or_eq_true, List.contains_iff_mem, Bool.not_eq_true'] at h
    refine List.Pairwise.cons (fun y hy => ⟨List.rel_of_pairwise_cons hp hy, ?_⟩) (pairsB_spec r (List.Pairwise.of_cons hp) h.2)
    rcases h.1 y hy with h1 | h1
    · left
      rcases reach_dep x.1 _ _ (fun k hk => .inl (by simpa using hk)) _ h1 with he | hd
      · have := List.rel_of_pairwise_cons hp hy
        omega
      · exact hd
    · exact .inr h1
def backB (md : Region.Mode) (l : List (Nat × Bool × Oper)) : Bool := l.all fun x => x.2.2.after.all fun e => !Region.binds md e || decide (e.on < x.1)
def effB (md : Region.Mode) (m : List Bool) (l : List Oper) : Bool :=
  Region.noSelect l.toArray && backB md (number m 0 l) && pairsB md l.toArray (number m 0 l)

/-- THE LAW. m: which operations turn the world. -/
theorem region_eff [Nonempty T] {id : Nat} {Q : Exit → Act → World → Prop} {a : Act} {w : World} {l : List Oper} (f : T → World) (m : List Bool) (hm : P.follows .mixedOrders = true)
    (hB : effB .any m l = true) (hC : ∃ s, w.drew = f s)
    (h : wlk P l.toArray f (fun a w => Q .normal a w) (masked m l) a w.drew) : (Code.region id l.toArray true).wp P Q a w := by
  simp only [effB, Bool.and_eq_true] at hB
  obtain ⟨⟨hsel, hbk⟩, hpb⟩ := hB
  have hval : ∀ x ∈ number m 0 l, l.toArray[x.1]? = some x.2.2 := fun x hx => by simpa using (number_mem m 0 l x hx).2
  refine wp_region_any hm ?_
  have hback : ∀ i o, l.toArray[i]? = some o → ∀ e ∈ o.after, Region.binds .any e = true → e.on < i := fun i o hi e he hb => by
    have hi' : i < l.length := by have := (Array.getElem?_eq_some_iff.1 hi).1; simpa using this
    obtain ⟨x, hx, rfl⟩ := number_has m 0 l i (Nat.zero_le _) (by omega)
    obtain rfl := Option.some.inj ((hval x hx).symm.trans hi)
    simp only [backB, List.all_eq_true, Array.all_eq_true_iff_forall_mem, Bool.or_eq_true, Bool.not_eq_true', decide_eq_true_eq] at hbk
    rcases hbk x hx e he with h1 | h1
    · rw [hb] at h1; cases h1
    · exact h1
  have hleft : Left .any l.toArray (Array.replicate l.toArray.size false) (number m 0 l) := by
    refine ⟨by simp, fun i => ⟨fun hi => ?_, fun hi => ?_⟩, hval, fun j oj hj hl => ?_, pairsB_spec _ (number_lt m 0 l) hpb⟩
    · refine number_has m 0 l i (Nat.zero_le _) ?_
      unfold Array.getD at hi
      split at hi
      · rename_i hlt; simpa using hlt
      · cases hi
    · obtain ⟨x, hx, rfl⟩ := hi
      have hlt := (Array.getElem?_eq_some_iff.1 (hval x hx)).1
      unfold Array.getD
      rw [dif_pos (by simpa using hlt)]
      simp
    · have : (Array.replicate l.toArray.size false).getD j false = false := by unfold Array.getD; split <;> simp
      rw [this] at hl
      cases hl
  have := wpAny_of_wlk (P := P) (f := f) hsel hback (Q' := Q) (fun a w hh => hh) l.toArray.size (number m 0 l) _ a w.drew (by rw [number_len]; simp) hleft hC (by rw [number_masked]; exact h)
  exact this

/-! ### steps -/
theorem wlk_pure {Q : Act → World → Prop} {o : Oper} {r : List (Bool × Oper)} {a : Act} {w : World}
    (h : ∀ K : Act → Prop, (∀ a, wlk P ops f Q r a w → K a) → if Region.wanted o (yielded ops a.tmps) = true then ∃ v, (∀ s, (execOp a.eval o).run P (f s) = .ok (.value v) (f s)) ∧ K (a.put o.dst v) else K (a.put o.dst undef)) :
    wlk P ops f Q ((false, o) :: r) a w := h (fun a => wlk P ops f Q r a w) (fun _ h => h)
theorem wlk_eff {Q : Act → World → Prop} {o : Oper} {r : List (Bool × Oper)} {a : Act} {w : World}
    (h : ∀ K : Act → World → Prop, (∀ a w, (∃ s, w = f s) → wlk P ops f Q r a w → K a w) → if Region.wanted o (yielded ops a.tmps) = true then o.wp P a w K (fun _ _ _ => False) else ∀ K' : Act → World → Prop, (∀ a w, wlk P ops f Q r a w → K' a w) → K' (a.put o.dst undef) w) :
    wlk P ops f Q ((true, o) :: r) a w := by
  have h1 := h (fun a w => (∃ s, w = f s) ∧ wlk P ops f Q r a w) (fun _ _ h1 h2 => ⟨h1, h2⟩)
  show stepW P ops f true o (wlk P ops f Q r) a w
  unfold stepW
  split
  · rename_i hw; rw [if_pos hw] at h1; exact h1
  · rename_i hw; rw [if_neg hw] at h1; exact h1 _ (fun _ _ h => h)
/-- one that turns the world, by a law for lists -/
theorem wlk_list {Q : Act → World → Prop} {o : Oper} {r : List (Bool × Oper)} {a : Act} {w : World}
    (h : wpList P ops (fun e a' w' => e = .normal ∧ (∃ s, w' = f s) ∧ wlk P ops f Q r a' w') [o] a w) (hg : o.guard = none) : wlk P ops f Q ((true, o) :: r) a w := by
  show stepW P ops f true o (wlk P ops f Q r) a w
  unfold stepW
  have hw : Region.wanted o (yielded ops a.tmps) = true := by simp [Region.wanted, hg]
  rw [if_pos hw]
  unfold wpList at h
  rw [if_pos hw] at h
  have hf : ¬ LetsOut (fun e a' w' => e = Exit.normal ∧ (∃ s, w' = f s) ∧ wlk P ops f Q r a' w') := fun ⟨_, _, hh⟩ => by cases hh.1
  rcases h with h | h
  · unfold Oper.wp at h ⊢
    generalize (execOp a.eval o).run P w = rr at h ⊢
    cases rr with
    | ok nn w' =>
      cases nn <;> simp only [Oper.upon, wpList] at h ⊢
      case value u => exact h.2
      case skip => exact h.2
      case defer x => exact h.2
      case enter g args =>
        refine Calls.mono h (fun e w'' he => ?_)
        cases e with
        | returned v' => exact he.2
        | panicked c => exact absurd he.1 (by simp)
        | outgrown => exact absurd he hf
      case row rw args => exact Rows.mono h (fun v' w'' he => he.2)
    | halt x w' =>
      cases x <;> simp only [Oper.upon] at h ⊢
      all_goals (first | exact h | exact absurd h.1 (by simp) | skip)
  · exact absurd h.2 hf
theorem wlk_nil {Q : Act → World → Prop} {a : Act} {w : World} (h : Q a w) : wlk P ops f Q [] a w := h
theorem masked_cons (b : Bool) (m : List Bool) (o : Oper) (l : List Oper) : masked (b :: m) (o :: l) = (b, o) :: masked m l := rfl
theorem masked_out (o : Oper) (l : List Oper) : masked [] (o :: l) = (false, o) :: masked [] l := rfl
theorem masked_nil (m : List Bool) : masked m [] = [] := rfl
end
end Go.Proofs.Ytdocbmgledebaaa
