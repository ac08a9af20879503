/- Timers in plain words: set, struck, one tick. No program in sight. -/
import Derived.Test.YtimlbebockfioaaOwnSet
namespace Go.Proofs.Ytimlbebockfioaa
open Go.RowKit

/-- A timer of a number. -/
structure Tm where
  key : Int
  left : Int
  span : Int
deriving DecidableEq
def tlook (T : List Tm) (k : Int) : Option Tm := T.find? fun t => decide (k = t.key)
def Asc (T : List Tm) : Prop := T.Pairwise (fun a b => a.key < b.key)
/-- By rising numbers, each once, within bounds. -/
structure TmOk (most : Int) (T : List Tm) : Prop where
  asc : Asc T
  ok : ∀ t ∈ T, (Lit.int .i64 t.key).wf = true ∧ 1 ≤ t.left ∧ t.left ≤ t.span ∧ t.span ≤ most
theorem tlook_mem {T : List Tm} {k : Int} {t : Tm} (h : tlook T k = some t) : t ∈ T ∧ t.key = k := by
  unfold tlook at h
  have h1 := List.find?_some h
  exact ⟨List.mem_of_find?_eq_some h, (of_decide_eq_true h1).symm⟩
theorem tlook_some {T : List Tm} (ha : Asc T) {t : Tm} (ht : t ∈ T) : tlook T t.key = some t := by
  unfold tlook
  induction T with
  | nil => cases ht
  | cons a T ih =>
    unfold Asc at ha
    rw [List.pairwise_cons] at ha
    rcases List.mem_cons.1 ht with rfl | ht
    · simp
    · have := ha.1 t ht
      rw [List.find?_cons, show decide (t.key = a.key) = false from decide_eq_false (by omega)]
      exact ih ha.2 ht
theorem tlook_isSome {T : List Tm} {k : Int} : (tlook T k).isSome = true ↔ k ∈ T.map (·.key) := by
  unfold tlook
  rw [List.find?_isSome, List.mem_map]
  constructor
  · rintro ⟨t, ht, h⟩; exact ⟨t, ht, (of_decide_eq_true h).symm⟩
  · rintro ⟨t, ht, rfl⟩; exact ⟨t, ht, by simp⟩
theorem tlook_none {T : List Tm} {k : Int} : tlook T k = none ↔ k ∉ T.map (·.key) := by
  rw [← tlook_isSome]
  cases tlook T k <;> simp
theorem Asc.keys {T : List Tm} (h : Asc T) : (T.map (·.key)).Pairwise (fun a b => a < b) := List.pairwise_map.2 h
theorem Asc.nodup {T : List Tm} (h : Asc T) : (T.map (·.key)).Nodup := h.keys.imp fun h e => by omega

/-- Where a timer stands, or would. -/
def tplace (T : List Tm) (k : Int) : Nat := (T.takeWhile fun t => decide (t.key < k)).length
def tfound (T : List Tm) (k : Int) : Bool := (T[tplace T k]?).any fun t => t.key == k
theorem tplace_le (T : List Tm) (k : Int) : tplace T k ≤ T.length := (List.takeWhile_sublist _).length_le
theorem tplace_is {T : List Tm} {k : Int} {j : Nat} (h1 : ∀ (i : Nat) (t : Tm), i < j → T[i]? = some t → t.key < k) (h2 : ∀ t : Tm, T[j]? = some t → k ≤ t.key) (hj : j ≤ T.length) : tplace T k = j := by
  induction T generalizing j with
  | nil => simp at hj; subst hj; rfl
  | cons a T ih =>
    unfold tplace
    cases j with
    | zero =>
      have := h2 a rfl
      rw [List.takeWhile_cons, show decide (a.key < k) = false from decide_eq_false (by omega)]
      rfl
    | succ j =>
      have := h1 0 a (by omega) rfl
      rw [List.takeWhile_cons, show decide (a.key < k) = true from decide_eq_true this]
      have h3 := ih (j := j) (fun i t hi ht => h1 (i + 1) t (by omega) ht) h2 (by simpa using hj)
      unfold tplace at h3
      simp [h3]
/-- A timer is set anew. -/
def tset : List Tm → Tm → List Tm
  | [], x => [x]
  | t :: T, x => if t.key < x.key then t :: tset T x else if t.key = x.key then x :: T else x :: t :: T
def tdel : List Tm → Int → List Tm
  | [], _ => []
  | t :: T, k => if t.key < k then t :: tdel T k else if t.key = k then T else t :: T
theorem tplace_cons (t : Tm) (T : List Tm) (k : Int) : tplace (t :: T) k = if t.key < k then tplace T k + 1 else 0 := by
  unfold tplace
  rw [List.takeWhile_cons]
  by_cases h : t.key < k
  · simp [h]
  · simp [h]
theorem tset_is : ∀ (T : List Tm) (x : Tm), tset T x = if tfound T x.key = true then T.set (tplace T x.key) x else T.take (tplace T x.key) ++ x :: T.drop (tplace T x.key)
  | [], x => by simp [tset, tfound, tplace]
  | t :: T, x => by
    have ih := tset_is T x
    unfold tset tfound
    unfold tfound at ih
    rw [tplace_cons]
    by_cases h : t.key < x.key
    · rw [if_pos h, if_pos h, ih]
      simp only [List.getElem?_cons_succ]
      split <;> simp
    · rw [if_neg h, if_neg h]
      by_cases h2 : t.key = x.key
      · simp [h2]
      · simp [h2]
theorem tdel_is : ∀ (T : List Tm) (k : Int), tdel T k = if tfound T k = true then T.take (tplace T k) ++ T.drop (tplace T k + 1) else T
  | [], x => by simp [tdel, tfound, tplace]
  | t :: T, k => by
    have ih := tdel_is T k
    unfold tdel tfound
    unfold tfound at ih
    rw [tplace_cons]
    by_cases h : t.key < k
    · rw [if_pos h, if_pos h, ih]
      simp only [List.getElem?_cons_succ]
      split <;> simp
    · rw [if_neg h, if_neg h]
      by_cases h2 : t.key = k
      · simp [h2]
      · simp [h2]
theorem tlook_cons (t : Tm) (T : List Tm) (k : Int) : tlook (t :: T) k = if k = t.key then some t else tlook T k := by
  unfold tlook
  by_cases h : k = t.key <;> simp [h]
theorem tlook_low {T : List Tm} {k : Int} (h : ∀ t ∈ T, k < t.key) : tlook T k = none := by
  rw [tlook_none, List.mem_map]
  rintro ⟨t, ht, rfl⟩
  have := h t ht
  omega
theorem Asc.head {t : Tm} {T : List Tm} (h : Asc (t :: T)) : ∀ a ∈ T, t.key < a.key := by unfold Asc at h; exact (List.pairwise_cons.1 h).1
theorem Asc.tail {t : Tm} {T : List Tm} (h : Asc (t :: T)) : Asc T := by unfold Asc at h ⊢; exact (List.pairwise_cons.1 h).2
theorem Asc.cons {t : Tm} {T : List Tm} (h : Asc T) (h1 : ∀ a ∈ T, t.key < a.key) : Asc (t :: T) := List.pairwise_cons.2 ⟨h1, h⟩
theorem tset_look : ∀ (T : List Tm) (x : Tm) (k : Int), Asc T → tlook (tset T x) k = if x.key = k then some x else tlook T k
  | [], x, k, _ => by
    unfold tset
    rw [tlook_cons]
    by_cases h : k = x.key
    · rw [if_pos h, if_pos h.symm]
    · rw [if_neg h, if_neg (fun e => h e.symm)]
  | t :: T, x, k, hp => by
    have ih := tset_look T x k hp.tail
    unfold tset
    split
    · rename_i h1
      rw [tlook_cons, tlook_cons, ih]
      by_cases h : k = t.key
      · rw [if_pos h, if_pos h, if_neg (by omega)]
      · rw [if_neg h, if_neg h]
    · split
      · rename_i h1 h2
        rw [tlook_cons, tlook_cons]
        by_cases h : x.key = k
        · rw [if_pos h.symm, if_pos h]
        · rw [if_neg (fun e => h e.symm), if_neg h, if_neg (by omega)]
      · rw [tlook_cons]
        by_cases h : x.key = k
        · rw [if_pos h.symm, if_pos h]
        · rw [if_neg (fun e => h e.symm), if_neg h]
theorem tset_mem : ∀ (T : List Tm) (x : Tm), ∀ t ∈ tset T x, t = x ∨ t ∈ T
  | [], x, t, h => by simp [tset] at h; exact .inl h
  | a :: T, x, t, h => by
    unfold tset at h
    split at h
    · rcases List.mem_cons.1 h with rfl | h
      · exact .inr (by simp)
      · rcases tset_mem T x t h with h | h
        · exact .inl h
        · exact .inr (by simp [h])
    · split at h
      · rcases List.mem_cons.1 h with rfl | h
        · exact .inl rfl
        · exact .inr (by simp [h])
      · rcases List.mem_cons.1 h with rfl | h
        · exact .inl rfl
        · exact .inr h
theorem tset_asc : ∀ (T : List Tm) (x : Tm), Asc T → Asc (tset T x)
  | [], x, _ => by simp [tset, Asc]
  | t :: T, x, hp => by
    unfold tset
    split
    · rename_i h1
      refine (tset_asc T x hp.tail).cons fun a ha => ?_
      rcases tset_mem T x a ha with rfl | ha
      · exact h1
      · exact hp.head a ha
    · split
      · rename_i h1 h2
        refine hp.tail.cons fun a ha => ?_
        have := hp.head a ha
        omega
      · refine hp.cons fun a ha => ?_
        rcases List.mem_cons.1 ha with rfl | ha
        · omega
        · have := hp.head a ha
          omega
theorem tset_len (T : List Tm) (x : Tm) : (tset T x).length ≤ T.length + 1 := by
  induction T with
  | nil => simp [tset]
  | cons t T ih =>
    unfold tset
    split
    · simp; exact ih
    · split <;> simp
theorem tdel_mem : ∀ (T : List Tm) (k : Int), ∀ t ∈ tdel T k, t ∈ T
  | [], _, t, h => by simp [tdel] at h
  | a :: T, k, t, h => by
    unfold tdel at h
    split at h
    · rcases List.mem_cons.1 h with rfl | h
      · simp
      · simp [tdel_mem T k t h]
    · split at h
      · simp [h]
      · exact h
theorem tdel_asc : ∀ (T : List Tm) (k : Int), Asc T → Asc (tdel T k)
  | [], _, h => h
  | t :: T, k, hp => by
    unfold tdel
    split
    · exact (tdel_asc T k hp.tail).cons fun a ha => hp.head a (tdel_mem T k a ha)
    · split
      · exact hp.tail
      · exact hp
theorem tdel_len (T : List Tm) (k : Int) : (tdel T k).length ≤ T.length := by
  induction T with
  | nil => simp [tdel]
  | cons t T ih =>
    unfold tdel
    split
    · simp; exact ih
    · split <;> simp
theorem tdel_look : ∀ (T : List Tm) (k k' : Int), Asc T → tlook (tdel T k) k' = if k = k' then none else tlook T k'
  | [], k, k', _ => by simp [tdel, tlook]
  | t :: T, k, k', hp => by
    have ih := tdel_look T k k' hp.tail
    unfold tdel
    split
    · rename_i h1
      rw [tlook_cons, tlook_cons, ih]
      by_cases h : k' = t.key
      · rw [if_pos h, if_pos h, if_neg (by omega)]
      · rw [if_neg h, if_neg h]
    · split
      · rename_i h1 h2
        rw [tlook_cons]
        by_cases h : k = k'
        · rw [if_pos h]
          exact tlook_low fun a ha => by have := hp.head a ha; omega
        · rw [if_neg h, if_neg (by omega)]
      · rename_i h1 h2
        by_cases h : k = k'
        · rw [if_pos h]
          refine tlook_low fun a ha => ?_
          rcases List.mem_cons.1 ha with rfl | ha
          · omega
          · have := hp.head a ha; omega
        · rw [if_neg h]
theorem tfound_is : ∀ {T : List Tm} (_ : Asc T) (k : Int), tfound T k = (tlook T k).isSome
  | [], _, k => by simp [tfound, tplace, tlook]
  | t :: T, hp, k => by
    have ih := tfound_is hp.tail k
    unfold tfound at ih ⊢
    rw [tplace_cons, tlook_cons]
    by_cases h : t.key < k
    · rw [if_pos h, if_neg (by omega), List.getElem?_cons_succ, ih]
    · rw [if_neg h]
      by_cases h2 : k = t.key
      · simp [h2]
      · rw [if_neg h2, tlook_low fun a ha => by have := hp.head a ha; omega]
        simp [show ¬ t.key = k from fun e => h2 e.symm]

/-- One tick of one timer. -/
def tick1 (most : Int) (t : Tm) : Tm := if t.left - 1 > 0 then ⟨t.key, t.left - 1, t.span⟩ else ⟨t.key, min (2 * t.span) most, min (2 * t.span) most⟩
def isDue (t : Tm) : Bool := decide (t.left - 1 ≤ 0)
def tickT (most : Int) (T : List Tm) : List Tm := T.map (tick1 most)
def dueT (T : List Tm) : List Int := (T.filter isDue).map (·.key)
theorem tick1_key (most : Int) (t : Tm) : (tick1 most t).key = t.key := by unfold tick1; split <;> rfl
theorem tickT_keys (most : Int) (T : List Tm) : (tickT most T).map (·.key) = T.map (·.key) := by
  unfold tickT
  rw [List.map_map]
  exact List.map_congr_left fun t _ => tick1_key most t
theorem asc_map {T : List Tm} {f : Tm → Tm} (hf : ∀ t, (f t).key = t.key) (h : Asc T) : Asc (T.map f) := by
  unfold Asc at h ⊢
  rw [List.pairwise_map]
  exact h.imp fun {a b} hab => by rw [hf, hf]; exact hab
theorem tick1_ok {most : Int} (hm : 1 ≤ most) {t : Tm} (h : 1 ≤ t.left ∧ t.left ≤ t.span ∧ t.span ≤ most) : 1 ≤ (tick1 most t).left ∧ (tick1 most t).left ≤ (tick1 most t).span ∧ (tick1 most t).span ≤ most := by
  unfold tick1
  split
  · simp only; omega
  · simp only; omega
theorem tickT_ok {most : Int} (hm : 1 ≤ most) {T : List Tm} (h : TmOk most T) : TmOk most (tickT most T) := by
  refine ⟨asc_map (tick1_key most) h.asc, fun t ht => ?_⟩
  obtain ⟨x, hx, rfl⟩ := List.mem_map.1 ht
  have h1 := h.ok x hx
  exact ⟨by rw [tick1_key]; exact h1.1, tick1_ok hm h1.2⟩
theorem tset_ok {most : Int} {T : List Tm} (h : TmOk most T) {x : Tm} (hx : (Lit.int .i64 x.key).wf = true ∧ 1 ≤ x.left ∧ x.left ≤ x.span ∧ x.span ≤ most) : TmOk most (tset T x) :=
  ⟨tset_asc T x h.asc, fun t ht => by rcases tset_mem T x t ht with rfl | ht; exact hx; exact h.ok t ht⟩
theorem tdel_ok {most : Int} {T : List Tm} (h : TmOk most T) (k : Int) : TmOk most (tdel T k) := ⟨tdel_asc T k h.asc, fun t ht => h.ok t (tdel_mem T k t ht)⟩
theorem tlook_map {T : List Tm} {f : Tm → Tm} (hf : ∀ t, (f t).key = t.key) (k : Int) : tlook (T.map f) k = (tlook T k).map f := by
  induction T with
  | nil => rfl
  | cons t T ih =>
    rw [List.map_cons, tlook_cons, tlook_cons, hf, ih]
    split <;> rfl
/-- Some of them ticked. -/
def fDone (most : Int) (done : List Int) (t : Tm) : Tm := if t.key ∈ done then tick1 most t else t
theorem fDone_key (most : Int) (done : List Int) (t : Tm) : (fDone most done t).key = t.key := by unfold fDone; split; exact tick1_key most t; rfl
theorem fDone_all (most : Int) {T : List Tm} {t : Tm} (ht : t ∈ T) : fDone most (T.map (·.key)) t = tick1 most t := if_pos (List.mem_map.2 ⟨t, ht, rfl⟩)
/-- How many ticks two lists of dues differ in one more timer. -/
theorem dueT_step {T : List Tm} {j : Nat} {t : Tm} (h : T[j]? = some t) : dueT (T.take (j + 1)) = dueT (T.take j) ++ (if isDue t = true then [t.key] else []) := by
  unfold dueT
  rw [take_succ_of h, List.filter_append, List.map_append]
  congr 1
  by_cases hd : isDue t = true
  · simp [hd]
  · simp [hd]
theorem dueT_len (T : List Tm) : (dueT T).length ≤ T.length := by unfold dueT; rw [List.length_map]; exact List.length_filter_le _ _
end Go.Proofs.Ytimlbebockfioaa
