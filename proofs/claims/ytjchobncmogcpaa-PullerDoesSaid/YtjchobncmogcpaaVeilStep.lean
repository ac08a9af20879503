/- A call under a veil goes its way without it. -/
import Derived.Test.YtjchobncmogcpaaVeilExec
namespace Go.Proofs.Ytjchobncmogcpaa
open Go.RowKit

def codePlain (P : Program) (F : FuncId → Bool) : Code → Bool
  | .skip | .ret | .exit _ | .label _ | .goto _ | .refuse _ => true
  | .region _ ops _ => ops.all (opPlain P F)
  | .seq a b => codePlain P F a && codePlain P F b
  | .cond _ a b => codePlain P F a && codePlain P F b
  | .block _ b => codePlain P F b
  | .loop b => codePlain P F b
  | .scope b => codePlain P F b
  | .rangeFunc .. => false
def itemPlain (P : Program) (F : FuncId → Bool) : Item → Bool
  | .code c => codePlain P F c
  | .inBlock _ => true
  | .inLoop b => codePlain P F b
  | .inScope b => codePlain P F b
  | .inRegion ops _ => ops.all (opPlain P F)
  | _ => false
structure FrameOk (P : Program) (F : FuncId → Bool) (fr : Frame) : Prop where
  todo : ∀ i ∈ fr.todo, itemPlain P F i = true
  defers : fr.defers = []
  round : fr.roundOf = none
  kind : fr.kind = .normal

/-- Below the call: a frame behind which nothing comes. -/
def stopFrame : Frame := { fn := 0, tmps := #[], todo := [.code (.refuse "")], defers := [⟨.nil, #[]⟩], mode := .run, kind := .normal }

section
variable {P : Program} {F : FuncId → Bool} {D : Nat → Prop} {w0 v w : World}
theorem stop_finish (x : Value) (v : World) (m : Machine) : step P (lone (stopFrame.finish x) [] v) ≠ .next m := by
  have : step P (lone (stopFrame.finish x) [] v) = .ended (.unsupported (.elab "") (stopFrame.pos P)) v := step_lone_ended (by simp [stopFrame, Frame.finish, stepG, stepG.exec])
  rw [this]
  intro h
  cases h
theorem stop_raise (chain : List PanicEntry) (v : World) (m : Machine) : step P (lone (stopFrame.raise chain) [] v) ≠ .next m := by
  have : ∃ o, step P (lone (stopFrame.raise chain) [] v) = .ended o v := ⟨_, step_lone_ended (by simp [stopFrame, Frame.raise, stepG, unwind, callDeferred]; rfl)⟩
  obtain ⟨o, e⟩ := this
  rw [e]
  intro h
  cases h

def Sims (P : Program) (F : FuncId → Bool) (D : Nat → Prop) (w0 : World) (cs : List Frame) (m m' : Machine) : Prop :=
  ∃ fr above v w, m = lone fr (above ++ [stopFrame]) v ∧ m' = lone fr (above ++ cs) w ∧ Veil D w0 v w ∧ FrameOk P F fr ∧ ∀ c ∈ above, FrameOk P F c
def Doomed (P : Program) (m : Machine) : Prop := (∃ fr v, m = lone fr [] v) ∧ ∀ m2, step P m ≠ .next m2

theorem frame_at {fr : Frame} (hm : fr.mode = .run) (hr : fr.roundOf = none) : fr = fr.at ⟨fr.tmps, fr.defers⟩ fr.todo := by
  cases fr; simp only [Frame.at] at *; subst hm hr; rfl
theorem findLabel_plain (l : Nat) : ∀ (c c' : Code), codePlain P F c = true → findLabel c l = some c' → codePlain P F c' = true
  | .seq a b, c', h, hf => by
    simp only [codePlain, Bool.and_eq_true] at h
    unfold findLabel at hf
    cases ha : findLabel a l with
    | some r =>
      rw [ha] at hf
      injection hf with hf
      subst hf
      simp only [codePlain, Bool.and_eq_true]
      exact ⟨findLabel_plain l a r h.1 ha, h.2⟩
    | none =>
      rw [ha] at hf
      exact findLabel_plain l b c' h.2 hf
  | .label l', c', h, hf => by
    unfold findLabel at hf
    split at hf
    · injection hf with hf; subst hf; rfl
    · cases hf
  | .skip, _, _, hf => by simp [findLabel] at hf
  | .ret, _, _, hf => by simp [findLabel] at hf
  | .exit _, _, _, hf => by simp [findLabel] at hf
  | .goto _, _, _, hf => by simp [findLabel] at hf
  | .refuse _, _, _, hf => by simp [findLabel] at hf
  | .region .., _, _, hf => by simp [findLabel] at hf
  | .cond .., _, _, hf => by simp [findLabel] at hf
  | .block .., _, _, hf => by simp [findLabel] at hf
  | .loop .., _, _, hf => by simp [findLabel] at hf
  | .scope .., _, _, hf => by simp [findLabel] at hf
  | .rangeFunc .., _, _, hf => by simp [findLabel] at hf
theorem exitTo_plain (id : Nat) : ∀ (k k' : List Item), (∀ i ∈ k, itemPlain P F i = true) → exitTo id k = some k' → ∀ i ∈ k', itemPlain P F i = true
  | [], _, _, h => by simp [exitTo] at h
  | x :: k, k', hk, h => by
    have hk2 : ∀ i ∈ k, itemPlain P F i = true := fun i hi => hk i (List.mem_cons_of_mem _ hi)
    unfold exitTo at h
    split at h
    · rename_i id' k2 he
      injection he with e1 e2
      subst e2
      split at h
      · injection h with h; subst h; exact hk2
      · exact exitTo_plain id _ k' hk2 h
    · rename_i he
      injection he with e1 e2
      subst e2
      exact exitTo_plain id _ k' hk2 h
    · rename_i he; cases he
theorem gotoIn_plain (l : Nat) : ∀ (k k' : List Item), (∀ i ∈ k, itemPlain P F i = true) → gotoIn l k = some k' → ∀ i ∈ k', itemPlain P F i = true
  | [], _, _, h => by simp [gotoIn] at h
  | x :: k, k', hk, h => by
    have hk2 : ∀ i ∈ k, itemPlain P F i = true := fun i hi => hk i (List.mem_cons_of_mem _ hi)
    unfold gotoIn at h
    split at h
    · rename_i body k2 he
      injection he with e1 e2
      subst e2 e1
      have hb : codePlain P F body = true := hk (.inScope body) (by simp)
      split at h
      · rename_i rest hr
        injection h with h
        subst h
        intro i hi
        simp only [List.mem_cons] at hi
        rcases hi with rfl | rfl | hi
        · exact findLabel_plain l body rest hb hr
        · exact hb
        · exact hk2 i hi
      · exact gotoIn_plain l _ k' hk2 h
    · rename_i he
      injection he with e1 e2
      subst e2
      exact gotoIn_plain l _ k' hk2 h
    · rename_i he; cases he
theorem finish_ok {fr : Frame} (h : FrameOk P F fr) (x : Value) : FrameOk P F (fr.finish x) := by
  unfold Frame.finish
  split
  · rename_i ops i rest k he
    refine ⟨fun j hj => ?_, h.defers, h.round, h.kind⟩
    have hj' : j ∈ Item.inRegion ops rest :: k := hj
    rcases List.mem_cons.1 hj' with rfl | hj'
    · exact h.todo (.inRegion ops (i :: rest)) (by rw [he]; simp)
    · exact h.todo j (by rw [he]; exact List.mem_cons_of_mem _ hj')
  · rename_i l k he
    have := h.todo (.inRangeFunc l) (by rw [he]; simp)
    cases this
  · rename_i k he
    have := h.todo .beginRound (by rw [he]; simp)
    cases this
  · rename_i d b r s k he
    have := h.todo (.call d b r s) (by rw [he]; simp)
    cases this
  · rename_i r s k he
    have := h.todo (.extern r s) (by rw [he]; simp)
    cases this
  · exact h
theorem raise_ok {fr : Frame} (h : FrameOk P F fr) (chain : List PanicEntry) : FrameOk P F (fr.raise chain) := by
  unfold Frame.raise
  split
  · exact ⟨h.todo, h.defers, h.round, h.kind⟩
  · exact ⟨h.todo, h.defers, h.round, h.kind⟩
theorem tame_results (fn : Func) (tmps : Array Value) : Tame P D (results fn tmps) := by
  unfold results
  refine Tame.bind (tame_mapM (fun a => ?_) _) fun _ => Tame.pure _
  split
  · exact Tame.pure _
  · exact Tame.bind (tame_asAddr _) fun _ => tame_loadVar _ _

theorem sims_move {cs : List Frame} {fr fr1 : Frame} {above : List Frame} {m1 : Machine} (hv : Veil D w0 v w) (ha : ∀ c ∈ above, FrameOk P F c) (he : ∀ cc u, step P (lone fr cc u) = .next (lone fr1 cc u)) (hok : FrameOk P F fr1)
    (hs : step P (lone fr (above ++ [stopFrame]) v) = .next m1) : (∃ m1', step P (lone fr (above ++ cs) w) = .next m1' ∧ Sims P F D w0 cs m1 m1') ∨ Doomed P m1 := by
  rw [he] at hs
  injection hs with hs
  subst hs
  exact .inl ⟨_, he _ _, fr1, above, v, w, rfl, rfl, hv, hok, ha⟩
theorem sims_pop {cs : List Frame} {fr : Frame} {above : List Frame} {m1 : Machine} {g : Frame → Frame} {v1 w1 : World} (hv : Veil D w0 v1 w1) (ha : ∀ c ∈ above, FrameOk P F c) (hg : ∀ c, FrameOk P F c → FrameOk P F (g c))
    (hd : ∀ (u : World) (m : Machine), step P (lone (g stopFrame) [] u) ≠ .next m)
    (he : ∀ c cc, step P (lone fr (c :: cc) v) = .next (lone (g c) cc v1)) (he' : ∀ c cc, step P (lone fr (c :: cc) w) = .next (lone (g c) cc w1))
    (hs : step P (lone fr (above ++ [stopFrame]) v) = .next m1) : (∃ m1', step P (lone fr (above ++ cs) w) = .next m1' ∧ Sims P F D w0 cs m1 m1') ∨ Doomed P m1 := by
  cases above with
  | nil =>
    have e := he stopFrame []
    rw [List.nil_append, e] at hs
    injection hs with hs
    subst hs
    exact .inr ⟨⟨_, _, rfl⟩, hd _⟩
  | cons c above =>
    rw [List.cons_append, he] at hs
    injection hs with hs
    subst hs
    exact .inl ⟨_, he' _ _, g c, above, v1, w1, rfl, rfl, hv, hg c (ha c (by simp)), fun c' hc' => ha c' (List.mem_cons_of_mem _ hc')⟩
theorem at_ok {fr : Frame} (h : FrameOk P F fr) {todo : List Item} (ht : ∀ i ∈ todo, itemPlain P F i = true) : FrameOk P F (fr.at ⟨fr.tmps, fr.defers⟩ todo) := ⟨ht, h.defers, rfl, h.kind⟩
theorem ret_ok {fr : Frame} (h : FrameOk P F fr) : FrameOk P F { fr with mode := .returning } := ⟨h.todo, h.defers, h.round, h.kind⟩
theorem no_next {m m1 : Machine} {o : Outcome} {u : World} {Q : Prop} (hs : step P m = .next m1) (he : step P m = .ended o u) : Q := by rw [he] at hs; cases hs

def bodyPlain (P : Program) (F : FuncId → Bool) (f : FuncId) : Bool := match P.funcs[f]? with | some fn => (match fn.body with | some c => codePlain P F c | none => false) | none => false
theorem enter_ok {f : FuncId} (h : bodyPlain P F f = true) (args : Array Value) : FrameOk P F (Frame.enter P f args .normal) := by
  refine ⟨fun i hi => ?_, rfl, rfl, rfl⟩
  unfold bodyPlain at h
  split at h
  · rename_i fn hf
    split at h
    · rename_i c hc
      simp only [Frame.enter, hf, hc, Option.bind_some, Option.getD_some, List.mem_singleton] at hi
      subst hi
      exact h
    · cases h
  · cases h

set_option maxHeartbeats 1000000 in
theorem sims_op (hall : ∀ g, F g = true → bodyPlain P F g = true) {cs : List Frame} {fr : Frame} {above : List Frame} {m1 : Machine} {ops : Array Oper} {i : Nat} {rest : List Nat} {k : List Item} {o : Oper} (hv : Veil D w0 v w)
    (hfr : FrameOk P F fr) (ha : ∀ c ∈ above, FrameOk P F c) (hm : fr.mode = .run) (ht : fr.todo = .inRegion ops (i :: rest) :: k) (ho : ops[i]? = some o) (hw : Region.wanted o (yielded ops fr.tmps) = true)
    (hs : step P (lone fr (above ++ [stopFrame]) v) = .next m1) : (∃ m1', step P (lone fr (above ++ cs) w) = .next m1' ∧ Sims P F D w0 cs m1 m1') ∨ Doomed P m1 := by
  have hfa := frame_at hm hfr.round
  rw [ht] at hfa
  have hops : ops.all (opPlain P F) = true := hfr.todo (.inRegion ops (i :: rest)) (by rw [ht]; simp)
  have hpo : opPlain P F o = true := by
    rw [Array.all_eq_true'] at hops
    exact hops o (Array.mem_of_getElem? ho)
  have hp : Plain P D F (execOp (Act.eval ⟨fr.tmps, fr.defers⟩) o) := plain_exec hpo (fun _ => rfl) (fun _ => rfl)
  have hg : ∀ cc u, stepG P true { frame := fr, callers := cc, status := .running, dying := none } u = stepG.apply P true fr cc none (execOp (Act.eval ⟨fr.tmps, fr.defers⟩) o) u := fun cc u => by
    have := stepG_op (P := P) (b := fr) (a := ⟨fr.tmps, fr.defers⟩) (k := k) (cs := cc) (w := u) (rest := rest) ho hw
    rwa [← hfa] at this
  have h1 := hp.tame.out w0 v w hv
  cases hr : (execOp (Act.eval ⟨fr.tmps, fr.defers⟩) o).run P v with
  | ok n v1 =>
    have hn := hp.next v n v1 hr
    rw [hr] at h1
    obtain ⟨w1, hr', hv1⟩ := h1
    cases n <;> simp only [NextOk] at hn
    case value x =>
      have he : ∀ cc, step P (lone fr cc v) = .next (lone (fr.finish x) cc v1) := fun cc => step_lone_go (by rw [hg]; simp [stepG.apply, hr])
      have he' : ∀ cc, step P (lone fr cc w) = .next (lone (fr.finish x) cc w1) := fun cc => step_lone_go (by rw [hg]; simp [stepG.apply, hr'])
      rw [he] at hs
      injection hs with hs
      subst hs
      exact .inl ⟨_, he' _, _, above, v1, w1, rfl, rfl, hv1, finish_ok hfr x, ha⟩
    case skip =>
      have he : ∀ cc, step P (lone fr cc v) = .next (lone (fr.finish undef) cc v1) := fun cc => step_lone_go (by rw [hg]; simp [stepG.apply, hr])
      have he' : ∀ cc, step P (lone fr cc w) = .next (lone (fr.finish undef) cc w1) := fun cc => step_lone_go (by rw [hg]; simp [stepG.apply, hr'])
      rw [he] at hs
      injection hs with hs
      subst hs
      exact .inl ⟨_, he' _, _, above, v1, w1, rfl, rfl, hv1, finish_ok hfr undef, ha⟩
    case enter f args =>
      have he : ∀ cc, step P (lone fr cc v) = .next (lone (Frame.enter P f args .normal) (fr :: cc) v1) := fun cc => step_lone_go (by rw [hg]; simp [stepG.apply, hr, ht])
      have he' : ∀ cc, step P (lone fr cc w) = .next (lone (Frame.enter P f args .normal) (fr :: cc) w1) := fun cc => step_lone_go (by rw [hg]; simp [stepG.apply, hr', ht])
      rw [he] at hs
      injection hs with hs
      subst hs
      exact .inl ⟨_, he' _, _, fr :: above, v1, w1, rfl, rfl, hv1, enter_ok (hall f hn) args, fun c hc => by
        rcases List.mem_cons.1 hc with rfl | hc
        · exact hfr
        · exact ha c hc⟩
  | halt hh v1 =>
    rw [hr] at h1
    cases hh with
    | panic x =>
      obtain ⟨w1, hr', hv1⟩ := h1
      have he : ∀ cc, step P (lone fr cc v) = .next (lone (fr.raise [{ v := x, recovered := false }]) cc v1) := fun cc => step_lone_go (by rw [hg]; simp [stepG.apply, hr])
      have he' : ∀ cc, step P (lone fr cc w) = .next (lone (fr.raise [{ v := x, recovered := false }]) cc w1) := fun cc => step_lone_go (by rw [hg]; simp [stepG.apply, hr'])
      rw [he] at hs
      injection hs with hs
      subst hs
      exact .inl ⟨_, he' _, _, above, v1, w1, rfl, rfl, hv1, raise_ok hfr _, ha⟩
    | stuck s => exact no_next hs (step_lone_ended (by rw [hg]; simp [stepG.apply, hr]; exact ⟨rfl, rfl⟩))
    | unsupported u =>
      cases u with
      | initOrder g => exact absurd h1 (by simp [Veils, Ends])
      | _ => exact no_next hs (step_lone_ended (by rw [hg]; simp [stepG.apply, hr]; exact ⟨rfl, rfl⟩))
    | _ => exact absurd h1 (by simp [Veils, Ends])
set_option maxHeartbeats 1000000 in
theorem sims_run (hall : ∀ g, F g = true → bodyPlain P F g = true) {cs : List Frame} {fr : Frame} {above : List Frame} {m1 : Machine} (hv : Veil D w0 v w)
    (hfr : FrameOk P F fr) (ha : ∀ c ∈ above, FrameOk P F c) (hm : fr.mode = .run)
    (hs : step P (lone fr (above ++ [stopFrame]) v) = .next m1) : (∃ m1', step P (lone fr (above ++ cs) w) = .next m1' ∧ Sims P F D w0 cs m1 m1') ∨ Doomed P m1 := by
  have hfa := frame_at hm hfr.round
  have htd := hfr.todo
  generalize htodo : fr.todo = todo at hfa htd
  have hle : ∀ (j : Option Code) (cc : List Frame) (u : World), (match fr.todo with | [] => j = none | .code .ret :: _ => j = some .ret | _ => False) → step P (lone fr cc u) = .next (lone { fr with mode := .returning } cc u) := fun j cc u hj => by
    rw [htodo] at hj
    cases todo with
    | nil => exact (congrArg (fun f => step P (lone f cc u)) hfa).trans (step_end.trans (by congr 2; exact congrArg (fun f : Frame => { f with mode := .returning }) hfa.symm))
    | cons x k =>
      cases x <;> try exact hj.elim
      rename_i c
      cases c <;> try exact hj.elim
      exact (congrArg (fun f => step P (lone f cc u)) hfa).trans (step_ret.trans (by congr 2; exact congrArg (fun f : Frame => { f with mode := .returning }) hfa.symm))
  cases todo with
  | nil => exact sims_move hv ha (fun cc u => hle none cc u (by rw [htodo])) (ret_ok hfr) hs
  | cons x k =>
    have hx := htd x (by simp)
    have hk : ∀ i ∈ k, itemPlain P F i = true := fun i hi => htd i (List.mem_cons_of_mem _ hi)
    have h1 : ∀ {a : Item}, itemPlain P F a = true → ∀ i ∈ a :: k, itemPlain P F i = true := fun h i hi => by
      rcases List.mem_cons.1 hi with rfl | hi
      · exact h
      · exact hk i hi
    have h2 : ∀ {a b : Item}, itemPlain P F a = true → itemPlain P F b = true → ∀ i ∈ a :: b :: k, itemPlain P F i = true := fun h h' i hi => by
      rcases List.mem_cons.1 hi with rfl | hi
      · exact h
      · exact h1 h' i hi
    cases x with
    | code c =>
      have hc : codePlain P F c = true := hx
      cases c with
      | skip => exact sims_move hv ha (fr1 := fr.at ⟨fr.tmps, fr.defers⟩ k) (fun cc u => (congrArg (fun f => step P (lone f cc u)) hfa).trans (step_skip)) (at_ok hfr hk) hs
      | label l => exact sims_move hv ha (fr1 := fr.at ⟨fr.tmps, fr.defers⟩ k) (fun cc u => (congrArg (fun f => step P (lone f cc u)) hfa).trans (step_label)) (at_ok hfr hk) hs
      | ret => exact sims_move hv ha (fun cc u => hle (some .ret) cc u (by rw [htodo])) (ret_ok hfr) hs
      | seq a b =>
        simp only [codePlain, Bool.and_eq_true] at hc
        exact sims_move hv ha (fr1 := fr.at ⟨fr.tmps, fr.defers⟩ (.code a :: .code b :: k)) (fun cc u => (congrArg (fun f => step P (lone f cc u)) hfa).trans (step_seq)) (at_ok hfr (h2 hc.1 hc.2)) hs
      | cond c a b =>
        simp only [codePlain, Bool.and_eq_true] at hc
        cases he : Act.eval ⟨fr.tmps, fr.defers⟩ c with
        | bool t =>
          exact sims_move hv ha (fr1 := fr.at ⟨fr.tmps, fr.defers⟩ (.code (if t then a else b) :: k)) (fun cc u => (congrArg (fun f => step P (lone f cc u)) hfa).trans (step_cond he)) (at_ok hfr (h1 (by cases t; exact hc.2; exact hc.1))) hs
        | _ =>
          have hev : fr.eval c = Act.eval ⟨fr.tmps, fr.defers⟩ c := by cases c <;> rfl
          exact no_next hs (step_lone_ended (by simp [stepG, stepG.exec, hm, htodo, hev, he]; exact ⟨rfl, rfl⟩))
      | block id b =>
        exact sims_move hv ha (fr1 := fr.at ⟨fr.tmps, fr.defers⟩ (.code b :: .inBlock id :: k)) (fun cc u => (congrArg (fun f => step P (lone f cc u)) hfa).trans (step_block)) (at_ok hfr (h2 (a := .code b) (b := .inBlock id) hc rfl)) hs
      | loop b =>
        exact sims_move hv ha (fr1 := fr.at ⟨fr.tmps, fr.defers⟩ (.code b :: .inLoop b :: k)) (fun cc u => (congrArg (fun f => step P (lone f cc u)) hfa).trans (step_loop)) (at_ok hfr (h2 (a := .code b) (b := .inLoop b) hc hc)) hs
      | scope b =>
        exact sims_move hv ha (fr1 := fr.at ⟨fr.tmps, fr.defers⟩ (.code b :: .inScope b :: k)) (fun cc u => (congrArg (fun f => step P (lone f cc u)) hfa).trans (step_scope)) (at_ok hfr (h2 (a := .code b) (b := .inScope b) hc hc)) hs
      | exit id =>
        cases he : exitTo id k with
        | some k' => exact sims_move hv ha (fr1 := fr.at ⟨fr.tmps, fr.defers⟩ k') (fun cc u => (congrArg (fun f => step P (lone f cc u)) hfa).trans (step_exit he)) (at_ok hfr (exitTo_plain id k k' hk he)) hs
        | none => exact no_next hs (step_lone_ended (by simp [stepG, stepG.exec, hm, htodo, he, hfr.round]; exact ⟨rfl, rfl⟩))
      | goto l =>
        cases he : gotoIn l k with
        | some k' => exact sims_move hv ha (fr1 := fr.at ⟨fr.tmps, fr.defers⟩ k') (fun cc u => (congrArg (fun f => step P (lone f cc u)) hfa).trans (step_goto he)) (at_ok hfr (gotoIn_plain l k k' hk he)) hs
        | none => exact no_next hs (step_lone_ended (by simp [stepG, stepG.exec, hm, htodo, he, hfr.round]; exact ⟨rfl, rfl⟩))
      | refuse why => exact no_next hs (step_lone_ended (by simp [stepG, stepG.exec, hm, htodo]; exact ⟨rfl, rfl⟩))
      | rangeFunc f ps a b => cases hc
      | region id ops draw =>
        cases draw with
        | false =>
          exact sims_move hv ha (fr1 := fr.at ⟨fr.tmps, fr.defers⟩ (.inRegion ops (List.range ops.size) :: k)) (fun cc u => (congrArg (fun f => step P (lone f cc u)) hfa).trans (step_region)) (at_ok hfr (h1 (a := .inRegion ops (List.range ops.size)) hc)) hs
        | true =>
          have e1 := step_region_draw (P := P) (b := fr) (a := ⟨fr.tmps, fr.defers⟩) (k := k) (cs := above ++ [stopFrame]) (w := v) (ops := ops) (id := id)
          have e2 := step_region_draw (P := P) (b := fr) (a := ⟨fr.tmps, fr.defers⟩) (k := k) (cs := above ++ cs) (w := w) (ops := ops) (id := id)
          rw [← hfa] at e1 e2
          rw [e1] at hs
          injection hs with hs
          subst hs
          rw [← hv.tape, ← hv.drawn] at e2
          refine .inl ⟨_, e2, _, above, _, _, rfl, ?_, hv.drew, at_ok hfr (h1 (a := .inRegion ops _) hc), ha⟩
          rw [← hv.tape, ← hv.drawn]
    | inBlock id => exact sims_move hv ha (fr1 := fr.at ⟨fr.tmps, fr.defers⟩ k) (fun cc u => (congrArg (fun f => step P (lone f cc u)) hfa).trans (step_inBlock)) (at_ok hfr hk) hs
    | inScope b => exact sims_move hv ha (fr1 := fr.at ⟨fr.tmps, fr.defers⟩ k) (fun cc u => (congrArg (fun f => step P (lone f cc u)) hfa).trans (step_inScope)) (at_ok hfr hk) hs
    | inLoop b => exact sims_move hv ha (fr1 := fr.at ⟨fr.tmps, fr.defers⟩ (.code b :: .inLoop b :: k)) (fun cc u => (congrArg (fun f => step P (lone f cc u)) hfa).trans (step_inLoop)) (at_ok hfr (h2 (a := .code b) (b := .inLoop b) hx hx)) hs
    | inRegion ops todo =>
      cases todo with
      | nil => exact sims_move hv ha (fr1 := fr.at ⟨fr.tmps, fr.defers⟩ k) (fun cc u => (congrArg (fun f => step P (lone f cc u)) hfa).trans (step_region_end)) (at_ok hfr hk) hs
      | cons i rest =>
        have hskip : ((ops[i]?).map (Region.wanted · (yielded ops fr.tmps))).getD false = false → (∃ m1', step P (lone fr (above ++ cs) w) = .next m1' ∧ Sims P F D w0 cs m1 m1') ∨ Doomed P m1 := fun hn => by
          refine sims_move hv ha (fr1 := fr.finish undef) (fun cc u => ?_) (finish_ok hfr undef) hs
          exact step_lone_go (by simp [stepG, stepG.exec, hm, htodo, hn])
        cases ho : ops[i]? with
        | none => exact hskip (by rw [ho]; rfl)
        | some o =>
          by_cases hw : Region.wanted o (yielded ops fr.tmps) = true
          · exact sims_op hall hv hfr ha hm htodo ho hw hs
          · exact hskip (by rw [ho]; simpa using hw)
    | _ => cases hx
set_option maxHeartbeats 1000000 in
theorem sims_step (hall : ∀ g, F g = true → bodyPlain P F g = true) {cs : List Frame} {m m' m1 : Machine} (h : Sims P F D w0 cs m m') (hs : step P m = .next m1) : (∃ m1', step P m' = .next m1' ∧ Sims P F D w0 cs m1 m1') ∨ Doomed P m1 := by
  obtain ⟨fr, above, v, w, rfl, rfl, hv, hfr, ha⟩ := h
  cases hm : fr.mode with
  | run => exact sims_run hall hv hfr ha hm hs
  | panicking chain =>
    have hcat : fr.catches P = false := by
      unfold Frame.catches
      split
      · rename_i d b r s k _ he
        have := hfr.todo (.call d b r s) (by rw [he]; simp)
        cases this
      · rfl
    exact sims_pop (g := fun c => c.raise chain) hv ha (fun c hc => raise_ok hc chain) (stop_raise chain)
      (fun c cc => step_lone_go (by simp [stepG, unwind, hm, hfr.defers, hcat])) (fun c cc => step_lone_go (by simp [stepG, unwind, hm, hfr.defers, hcat])) hs
  | returning =>
    cases hf : P.funcs[fr.fn]? with
    | none =>
      exact sims_pop (g := fun c => c.finish (fr.tmps.getD 0 undef)) hv ha (fun c hc => finish_ok hc _) (stop_finish _)
        (fun c cc => step_lone_go (by simp [stepG, unwind, doReturn, hm, hfr.defers, hf, hfr.kind])) (fun c cc => step_lone_go (by simp [stepG, unwind, doReturn, hm, hfr.defers, hf, hfr.kind])) hs
    | some fn =>
      have h1 := (tame_results (P := P) fn fr.tmps).out w0 v w hv
      cases hr : (results fn fr.tmps).run P v with
      | ok x v1 =>
        rw [hr] at h1
        obtain ⟨w1, hr', hv1⟩ := h1
        exact sims_pop (g := fun c => c.finish x) hv1 ha (fun c hc => finish_ok hc _) (stop_finish _)
          (fun c cc => step_lone_go (by simp [stepG, unwind, doReturn, hm, hfr.defers, hf, hfr.kind, hr])) (fun c cc => step_lone_go (by simp [stepG, unwind, doReturn, hm, hfr.defers, hf, hfr.kind, hr'])) hs
      | halt hh v1 =>
        cases hh <;> exact no_next hs (step_lone_ended (by simp [stepG, unwind, hm, hfr.defers, hf, hr]; exact ⟨rfl, rfl⟩))
theorem doomed_steps {m m2 : Machine} (h : Doomed P m) : ∀ n, runN P n m = .next m2 → m2 = m
  | 0, he => by injection he with he; exact he.symm
  | n + 1, he => by
    unfold runN at he
    split at he
    · rename_i m3 h3; exact absurd h3 (h.2 m3)
    · rename_i h3; exact absurd he (fun hq => h3 _ hq)
theorem sims_steps (hall : ∀ g, F g = true → bodyPlain P F g = true) {cs : List Frame} : ∀ (n : Nat) {m m' m2 : Machine}, Sims P F D w0 cs m m' → runN P n m = .next m2 → (∃ m2', Steps P m' m2' ∧ Sims P F D w0 cs m2 m2') ∨ Doomed P m2
  | 0, m, m', m2, h, he => by
    injection he with he
    subst he
    exact .inl ⟨m', Steps.refl P m', h⟩
  | n + 1, m, m', m2, h, he => by
    unfold runN at he
    split at he
    · rename_i m3 h3
      rcases sims_step hall h h3 with ⟨m3', h4, h5⟩ | hd
      · rcases sims_steps hall n h5 he with ⟨m2', h6, h7⟩ | hd
        · exact .inl ⟨m2', Steps.head h4 h6, h7⟩
        · exact .inr hd
      · have := doomed_steps hd n he
        subst this
        exact .inr hd
    · rename_i h3; exact absurd he (fun hq => h3 _ hq)
/-! What only reads leaves the world. -/
structure Still {α : Type} (P : Program) (s : Sem α) : Prop where
  out : ∀ w a w', s.run P w = .ok a w' → w' = w
theorem Still.pure {α : Type} (a : α) : Still P (Pure.pure a : Sem α) := ⟨fun w x w' h => by injection h with _ h; exact h.symm⟩
theorem Still.bind {α β : Type} {s : Sem α} {f : α → Sem β} (h : Still P s) (k : ∀ a, Still P (f a)) : Still P (s >>= f) := ⟨fun w x w' hr => by
  rw [Sem.run_bind] at hr
  cases hs : s.run P w with
  | ok a u =>
    rw [hs] at hr
    have := h.out w a u hs
    subst this
    exact (k a).out _ x w' hr
  | halt hh u => rw [hs] at hr; cases hr⟩
theorem Still.map {α β : Type} {s : Sem α} (f : α → β) (h : Still P s) : Still P (f <$> s) := Still.bind h fun a => Still.pure (f a)
theorem Still.halt {α : Type} (h : Halt) : Still P (.halt h : Sem α) := ⟨fun w x w' hr => by cases hr⟩
theorem Still.program : Still P program := ⟨fun w x w' h => by injection h with _ h; exact h.symm⟩
theorem still_load (a : Addr) (m : Mode) : Still P (load a m) := ⟨fun w x w' h => by
  rw [run_load] at h
  split at h
  · injection h with _ h; exact h.symm
  · split at h
    · injection h with _ h; exact h.symm
    · cases h⟩
theorem still_loadCellsFrom (a : Addr) : ∀ (n i : Nat) (acc : Array Value), Still P (loadCellsFrom a i n acc)
  | 0, _, _ => Still.pure _
  | n + 1, i, acc => Still.bind (still_load _ _) fun _ => still_loadCellsFrom a n (i + 1) _
theorem still_underlying (t : TypeId) : Still P (underlying t) := Still.bind Still.program fun p => by split <;> first | exact Still.pure _ | exact Still.halt _
theorem still_typeInfo (t : TypeId) : Still P (typeInfo t) := Still.bind Still.program fun p => by split <;> first | exact Still.pure _ | exact Still.halt _
theorem still_isAgg (t : TypeId) : Still P (isAgg t) := Still.bind (still_underlying t) fun d => by split <;> exact Still.pure _
theorem still_loadVar (t : TypeId) (a : Addr) : Still P (loadVar t a) := Still.bind (still_isAgg t) fun b => by
  split
  · exact Still.bind (Still.bind (still_typeInfo t) fun _ => Still.pure _) fun n => Still.bind (still_loadCellsFrom a n 0 #[]) fun _ => Still.pure _
  · exact still_load _ _
theorem still_runtimePanic {α : Type} (x : Value) : Still P (goPanic x : Sem α) := Still.halt _
theorem still_asAddr (x : Value) : Still P (asAddr x) := by
  unfold asAddr
  split
  · exact Still.pure _
  · exact Still.bind Still.program fun p => Still.halt _
  · exact Still.halt _
theorem still_mapM {α β : Type} {f : α → Sem β} (hf : ∀ a, Still P (f a)) (xs : Array α) : Still P (xs.mapM f) := by
  rw [← Array.toArray_toList (xs := xs), List.mapM_toArray]
  refine Still.map _ ?_
  generalize xs.toList = l
  induction l with
  | nil => exact Still.pure _
  | cons a l ih => rw [List.mapM_cons]; exact Still.bind (hf a) fun _ => Still.bind ih fun _ => Still.pure _
theorem still_results (fn : Func) (tmps : Array Value) : Still P (results fn tmps) := by
  unfold results
  refine Still.bind (still_mapM (fun a => ?_) _) fun _ => Still.pure _
  split
  · exact Still.pure _
  · exact Still.bind (still_asAddr _) fun _ => still_loadVar _ _
/-- What a call does under a veil it does without it; and what is hidden stays. -/
theorem calls_veil (hall : ∀ g, F g = true → bodyPlain P F g = true) {f : FuncId} (hF : F f = true) {args : Array Value} {R : Ending → World → Prop} (h : Calls P f args v R) (hR : ∀ e u, R e u → ∃ x, e = .returned x) (hv : Veil D w0 v w) :
    Calls P f args w fun e w' => ∃ v', R e v' ∧ Veil D w0 v' w' := by
  intro cs
  obtain ⟨e, v', fr, hr, hc, hfn, hl⟩ := h [stopFrame]
  obtain ⟨x, rfl⟩ := hR e v' hr
  obtain ⟨n, hn⟩ : Steps P _ _ := hc
  have h0 : Sims P F D w0 cs (lone (Frame.enter P f args .normal) [stopFrame] v) (lone (Frame.enter P f args .normal) cs w) := ⟨_, [], v, w, rfl, rfl, hv, enter_ok (hall f hF) args, by simp⟩
  rcases sims_steps hall n h0 hn with ⟨m2, h1, fr2, above, v2, w2, e1, e2, hv2, hfr, _⟩ | ⟨⟨fr2, v2, e1⟩, _⟩
  · simp only [lone, Machine.mk.injEq, Array.mk.injEq, List.cons.injEq, Goroutine.mk.injEq, and_true] at e1
    obtain ⟨rfl, e1⟩ := e1
    obtain ⟨rfl, e3⟩ : fr = fr2 ∧ [stopFrame] = above ++ [stopFrame] := by simpa using e1
    have ha : above = [] := by
      have := congrArg List.length e3
      simp at this
      exact this
    subst ha
    obtain ⟨q1, q2, q3, fn, q4, q5⟩ := hl
    have h3 := (tame_results (P := P) fn fr.tmps).out w0 v' w2 hv2
    rw [q5] at h3
    obtain ⟨w3, q6, hv3⟩ := h3
    have := (still_results (P := P) fn fr.tmps).out w2 x w3 q6
    subst this
    subst e2
    exact ⟨.returned x, _, fr, ⟨v', hr, hv2⟩, h1, hfn, q1, q2, q3, fn, q4, q6⟩
  · simp [lone] at e1
end
end Go.Proofs.Ytjchobncmogcpaa
