/- The plain law of IdealJudge: where no two messages are the same, a lossy queue takes just the events that keep the judge's order and skips. -/
import Derived.Test.YtjchobncmogcpaaFifo
import Derived.Test.YtjchobncmogcpaaJudgePlainR3
namespace Go.Proofs.Ytjchobncmogcpaa
open Go.RowKit

/-- No two of them are the same. -/
def Differ {α : Type} (S : List α) : Prop := ∀ (i j : Nat) (x : α), S[i]? = some x → S[j]? = some x → i = j
/-- What is accepted from here on: each that comes back was sent ahead, not before place c, and what is left out was sent ahead of a crash. -/
def Good (done : List Ev) : List Ev → Nat → Prop
  | [], _ => True
  | e :: es, c => if e.kind = 2 then (∃ a, c ≤ a ∧ (texts done 0)[a]? = some e.data ∧ (∀ q, c ≤ q → q < a → ∀ s, (nums done 0)[q]? = some s → crB done s done.length (-1) = true) ∧ Good (done ++ [e]) es (a + 1)) else Good (done ++ [e]) es c

structure LossyAt (s : Iq) (done : List Ev) (c : Nat) : Prop where
  lossy : s.lossy = true
  stuck : s.stuck = false
  sent : s.sent = texts done 0
  at_ : s.at_ = [(c : Int)]
  lost : ∀ (q : Nat) (t : Int), (nums done 0)[q]? = some t → ((q : Int) < s.lost ↔ crB done t done.length (-1) = true)
  lost1 : s.lost ≤ (texts done 0).length
theorem nums_snoc (l : List Ev) (x : Ev) (kind : Int) : nums (l ++ [x]) kind = nums l kind ++ (if x.kind = kind then [(l.length : Int)] else []) := by
  unfold nums
  rw [numsFrom_snoc]
  simp
theorem nums_lt {l : List Ev} {kind : Int} {q : Nat} {t : Int} (h : (nums l kind)[q]? = some t) : t < l.length := by
  obtain ⟨i, e, h1, h2, _⟩ := nums_mem.1 (List.mem_of_getElem? h)
  have := lt_of_get h2
  omega
theorem crB_iff {l : List Ev} {f t who : Int} : crB l f t who = true ↔ ∃ (j : Nat) (x : Ev), l[j]? = some x ∧ hit x j f t who = true := by
  constructor
  · intro h
    refine Classical.byContradiction fun hn => ?_
    rw [crB_no fun j x hx => by
      cases hh : hit x j f t who with
      | false => rfl
      | true => exact absurd ⟨j, x, hx, hh⟩ hn] at h
    cases h
  · rintro ⟨j, x, hx, hh⟩
    exact crB_yes hx hh
theorem hit_iff {x : Ev} {i f t : Int} : hit x i f t (-1) = true ↔ x.kind = 5 ∧ f < i ∧ i < t := by
  unfold hit
  rw [decide_eq_true_iff]
  constructor
  · exact fun h => ⟨h.1, h.2.2⟩
  · exact fun h => ⟨h.1, .inl (by omega), h.2⟩
theorem crB_at {l : List Ev} {f t : Int} : crB l f t (-1) = true ↔ ∃ (j : Nat) (x : Ev), l[j]? = some x ∧ x.kind = 5 ∧ f < j ∧ (j : Int) < t := by
  rw [crB_iff]
  constructor
  · rintro ⟨j, x, hx, hh⟩; exact ⟨j, x, hx, hit_iff.1 hh⟩
  · rintro ⟨j, x, hx, hh⟩; exact ⟨j, x, hx, hit_iff.2 hh⟩
/-- A crash between two is the same in what has come by then. -/
theorem crB_take {done rest : List Ev} {f : Int} : crB (done ++ rest) f done.length (-1) = true ↔ crB done f done.length (-1) = true := by
  rw [crB_at, crB_at]
  constructor
  · rintro ⟨j, x, hx, h1, h2, h3⟩
    rw [List.getElem?_append_left (by omega)] at hx
    exact ⟨j, x, hx, h1, h2, h3⟩
  · rintro ⟨j, x, hx, h1, h2, h3⟩
    exact ⟨j, x, by rw [List.getElem?_append_left (lt_of_get hx)]; exact hx, h1, h2, h3⟩
theorem crB_snoc {done : List Ev} {e : Ev} {f : Int} (hf : f < done.length) : crB (done ++ [e]) f ((done ++ [e]).length : Nat) (-1) = true ↔ crB done f done.length (-1) = true ∨ e.kind = 5 := by
  rw [crB_at, crB_at]
  constructor
  · rintro ⟨j, x, hx, h1, h2, h3⟩
    rcases Nat.lt_or_ge j done.length with hj | hj
    · rw [List.getElem?_append_left hj] at hx
      exact .inl ⟨j, x, hx, h1, h2, by omega⟩
    · have hjl := lt_of_get hx
      simp at hjl
      obtain rfl : j = done.length := by omega
      simp at hx
      subst hx
      exact .inr h1
  · rintro (⟨j, x, hx, h1, h2, h3⟩ | h5)
    · exact ⟨j, x, by rw [List.getElem?_append_left (lt_of_get hx)]; exact hx, h1, h2, by simp; omega⟩
    · exact ⟨done.length, e, by simp, h5, hf, by simp; omega⟩
theorem lossy_next {s : Iq} {c : Nat} (ha : s.at_ = [(c : Int)]) (hd : Differ s.sent) (m : List UInt8) : ∀ k, nextK s m k = match (List.range k).find? (fun p => decide (s.sent[p]? = some m)) with
    | some p => if p = c ∨ (c < p ∧ (p : Int) ≤ s.lost) then [(p : Int) + 1] else []
    | none => []
  | 0 => by simp [nextK]
  | k + 1 => by
    unfold nextK
    rw [lossy_next ha hd m k, List.range_succ, List.find?_append]
    have hr : reachB s k (leastI s) = decide (k = c ∨ (c < k ∧ (k : Int) ≤ s.lost)) := by
      unfold reachB leastI
      rw [ha]
      apply Bool.eq_iff_iff.2
      simp only [decide_eq_true_iff, List.mem_singleton]
      omega
    rw [hr]
    cases hf : (List.range k).find? (fun p => decide (s.sent[p]? = some m)) with
    | some p =>
      have hp : s.sent[p]? = some m := by simpa using List.find?_some hf
      have hpk : p < k := by simpa using List.mem_of_find?_eq_some hf
      have hn : ¬ (s.sent[k]? = some m ∧ decide (k = c ∨ (c < k ∧ (k : Int) ≤ s.lost)) = true) := fun h => by have := hd p k m hp h.1; omega
      rw [if_neg hn]
      simp
    | none =>
      simp only [Option.none_or, List.find?_cons, List.find?_nil]
      by_cases hm : s.sent[k]? = some m
      · simp [hm]
      · simp [hm]
theorem lossy_nextS {s : Iq} {c : Nat} (ha : s.at_ = [(c : Int)]) (hd : Differ s.sent) (m : List UInt8) :
    (∃ p, s.sent[p]? = some m ∧ (p = c ∨ (c < p ∧ (p : Int) ≤ s.lost)) ∧ nextS s m = [(p : Int) + 1]) ∨ ((∀ p, s.sent[p]? = some m → ¬ (p = c ∨ (c < p ∧ (p : Int) ≤ s.lost))) ∧ nextS s m = []) := by
  have h := lossy_next ha hd m s.sent.length
  unfold nextS
  cases hf : (List.range s.sent.length).find? (fun p => decide (s.sent[p]? = some m)) with
  | some p =>
    have hp : s.sent[p]? = some m := by simpa using List.find?_some hf
    rw [hf] at h
    by_cases hc : p = c ∨ (c < p ∧ (p : Int) ≤ s.lost)
    · exact .inl ⟨p, hp, hc, by rw [h]; exact if_pos hc⟩
    · refine .inr ⟨fun q hq => ?_, by rw [h]; exact if_neg hc⟩
      rw [hd q p m hq hp]
      exact hc
  | none =>
    rw [hf] at h
    refine .inr ⟨fun q hq => ?_, h⟩
    rw [List.find?_eq_none] at hf
    have := hf q (by simpa using lt_of_get hq)
    simp [hq] at this
theorem texts_get {l : List Ev} {kind : Int} {q : Nat} {x : List UInt8} (h : (texts l kind)[q]? = some x) : ∃ t, (nums l kind)[q]? = some t := ⟨_, List.getElem?_eq_getElem (by have := lt_of_get h; rwa [texts_len] at this)⟩
/-- The queue, one event on. -/
theorem lossy_step {s : Iq} {done : List Ev} {c : Nat} (h : LossyAt s done c) (e : Ev) (hd : Differ (texts done 0)) :
    if e.kind = 2 then (∃ a, c ≤ a ∧ (texts done 0)[a]? = some e.data ∧ (∀ q, c ≤ q → q < a → ∀ t, (nums done 0)[q]? = some t → crB done t done.length (-1) = true) ∧ LossyAt (stepS s e.kind e.data) (done ++ [e]) (a + 1)) ∨
      ((¬ ∃ a, c ≤ a ∧ (texts done 0)[a]? = some e.data ∧ ∀ q, c ≤ q → q < a → ∀ t, (nums done 0)[q]? = some t → crB done t done.length (-1) = true) ∧ (stepS s e.kind e.data).stuck = true)
    else LossyAt (stepS s e.kind e.data) (done ++ [e]) c := by
  have hs : ¬ s.stuck = true := by rw [h.stuck]; simp
  have hlen := texts_len done 0
  by_cases h2 : e.kind = 2
  · rw [if_pos h2]
    have e0 : texts (done ++ [e]) 0 = texts done 0 := by rw [texts_snoc, if_neg (by omega), List.append_nil]
    have n0 : nums (done ++ [e]) 0 = nums done 0 := by rw [nums_snoc, if_neg (by omega), List.append_nil]
    have hst : stepS s e.kind e.data = retS s e.data := by unfold stepS; rw [if_neg hs, if_neg (by omega), if_pos h2]
    have hskip : ∀ a, c ≤ a → a < (texts done 0).length → ((a = c ∨ (c < a ∧ (a : Int) ≤ s.lost)) ↔ ∀ q, c ≤ q → q < a → ∀ t, (nums done 0)[q]? = some t → crB done t done.length (-1) = true) := fun a hca hal => by
      constructor
      · intro hh q hq1 hq2 t ht
        rcases hh with rfl | ⟨_, hh⟩
        · omega
        · exact (h.lost q t ht).1 (by omega)
      · intro hh
        by_cases hac : a = c
        · exact .inl hac
        · obtain ⟨t, ht⟩ : ∃ t, (nums done 0)[a - 1]? = some t := ⟨_, List.getElem?_eq_getElem (by omega)⟩
          have := (h.lost (a - 1) t ht).2 (hh (a - 1) (by omega) (by omega) t ht)
          exact .inr ⟨by omega, by omega⟩
    rcases lossy_nextS h.at_ (by rw [h.sent]; exact hd) e.data with ⟨p, hp, hc, hnx⟩ | ⟨hno, hnx⟩
    · left
      rw [h.sent] at hp
      have hpl := lt_of_get hp
      refine ⟨p, by omega, hp, (hskip p (by omega) hpl).1 hc, ?_⟩
      have hsk : (retS s e.data).stuck = false := by unfold retS; rw [hnx]; rfl
      rw [hst]
      refine ⟨h.lossy, hsk, by rw [e0]; exact h.sent, by show nextS s e.data = _; rw [hnx]; simp, fun q t ht => ?_, by rw [e0]; exact h.lost1⟩
      rw [n0] at ht
      rw [crB_snoc (nums_lt ht)]
      have := h.lost q t ht
      constructor
      · exact fun hq => .inl (this.1 hq)
      · rintro (hq | hq)
        · exact this.2 hq
        · omega
    · right
      refine ⟨?_, by rw [hst]; unfold retS; rw [hnx]; rfl⟩
      rintro ⟨a, ha, hax, hq⟩
      exact hno a (by rw [h.sent]; exact hax) ((hskip a ha (lt_of_get hax)).2 hq)
  · rw [if_neg h2]
    by_cases h0 : e.kind = 0
    · have e0 : texts (done ++ [e]) 0 = texts done 0 ++ [e.data] := by rw [texts_snoc, if_pos h0]
      have n0 : nums (done ++ [e]) 0 = nums done 0 ++ [(done.length : Int)] := by rw [nums_snoc, if_pos h0]
      have hst : stepS s e.kind e.data = { s with sent := s.sent ++ [e.data] } := by unfold stepS; rw [if_neg hs, if_pos h0]
      rw [hst]
      refine ⟨h.lossy, h.stuck, by rw [e0]; show s.sent ++ _ = _; rw [h.sent], h.at_, fun q t ht => ?_, by have := h.lost1; rw [e0]; simp; show s.lost ≤ _; omega⟩
      rw [n0] at ht
      rcases Nat.lt_or_ge q (nums done 0).length with hq | hq
      · rw [List.getElem?_append_left hq] at ht
        rw [crB_snoc (nums_lt ht)]
        have := h.lost q t ht
        constructor
        · exact fun hq => .inl (this.1 hq)
        · rintro (hq | hq)
          · exact this.2 hq
          · omega
      · have hql := lt_of_get ht
        simp at hql
        obtain rfl : q = (nums done 0).length := by omega
        simp at ht
        subst ht
        have hl1 := h.lost1
        constructor
        · intro hh
          have hh : ((nums done 0).length : Int) < s.lost := hh
          omega
        · intro hh
          obtain ⟨j, x, _, _, h4, h5⟩ := crB_at.1 hh
          simp at h5
          omega
    · have e0 : texts (done ++ [e]) 0 = texts done 0 := by rw [texts_snoc, if_neg h0, List.append_nil]
      have n0 : nums (done ++ [e]) 0 = nums done 0 := by rw [nums_snoc, if_neg h0, List.append_nil]
      by_cases h5 : e.kind = 5
      · have hst : stepS s e.kind e.data = { s with lost := s.sent.length } := by unfold stepS; rw [if_neg hs, if_neg h0, if_neg h2, if_pos ⟨h5, h.lossy⟩]
        rw [hst]
        refine ⟨h.lossy, h.stuck, by rw [e0]; exact h.sent, h.at_, fun q t ht => ?_, by rw [e0, ← h.sent]; exact Int.le_refl _⟩
        rw [n0] at ht
        rw [crB_snoc (nums_lt ht)]
        have hql := lt_of_get ht
        refine ⟨fun _ => .inr h5, fun _ => ?_⟩
        show (q : Int) < (s.sent.length : Int)
        rw [h.sent]
        omega
      · have hst : stepS s e.kind e.data = s := by unfold stepS; rw [if_neg hs, if_neg h0, if_neg h2, if_neg (fun hh => h5 hh.1)]
        rw [hst]
        refine ⟨h.lossy, h.stuck, by rw [e0]; exact h.sent, h.at_, fun q t ht => ?_, by rw [e0]; exact h.lost1⟩
        rw [n0] at ht
        rw [crB_snoc (nums_lt ht)]
        have := h.lost q t ht
        constructor
        · exact fun hq => .inl (this.1 hq)
        · rintro (hq | hq)
          · exact this.2 hq
          · omega
theorem differ_left {α : Type} {S T : List α} (h : Differ (S ++ T)) : Differ S := fun i j x hi hj =>
  h i j x (by rw [List.getElem?_append_left (lt_of_get hi)]; exact hi) (by rw [List.getElem?_append_left (lt_of_get hj)]; exact hj)
theorem texts_append (kind : Int) : ∀ (rest done : List Ev), ∃ T, texts (done ++ rest) kind = texts done kind ++ T
  | [], done => ⟨[], by simp⟩
  | e :: es, done => by
    obtain ⟨T, hT⟩ := texts_append kind es (done ++ [e])
    rw [texts_snoc, List.append_assoc, List.append_assoc] at hT
    exact ⟨_, hT⟩
theorem lossy_acc : ∀ (rest done : List Ev) (s : Iq) (i c : Nat), LossyAt s done c → Differ (texts (done ++ rest) 0) → ((accI s rest i).2 = true ↔ Good done rest c)
  | [], done, s, i, c, h, hd => by simp [accI, Good]
  | e :: es, done, s, i, c, h, hd => by
    obtain ⟨T, hT⟩ := texts_append 0 (e :: es) done
    have hst := lossy_step h e (differ_left (hT ▸ hd))
    have hd' : Differ (texts ((done ++ [e]) ++ es) 0) := by simpa using hd
    have hdd : Differ (texts done 0) := differ_left (hT ▸ hd)
    unfold accI Good
    by_cases h2 : e.kind = 2
    · rw [if_pos h2] at hst ⊢
      rcases hst with ⟨a, ha1, ha2, ha3, ha4⟩ | ⟨hno, hsk⟩
      · rw [if_neg (by rw [ha4.stuck]; simp), lossy_acc es (done ++ [e]) _ (i + 1) (a + 1) ha4 hd']
        constructor
        · exact fun hg => ⟨a, ha1, ha2, ha3, hg⟩
        · rintro ⟨b, hb1, hb2, hb3, hg⟩
          obtain rfl := hdd a b _ ha2 hb2
          exact hg
      · rw [if_pos hsk]
        refine ⟨fun hh => by simp at hh, ?_⟩
        rintro ⟨b, hb1, hb2, hb3, _⟩
        exact absurd ⟨b, hb1, hb2, hb3⟩ hno
    · rw [if_neg h2] at hst ⊢
      rw [if_neg (by rw [hst.stuck]; simp), lossy_acc es (done ++ [e]) _ (i + 1) c hst hd']
theorem lossy_nil : LossyAt (iq0 true) [] 0 := ⟨rfl, rfl, by simp [iq0, texts, nums, numsFrom], by simp [iq0], fun q t h => by simp [nums, numsFrom] at h, by simp [iq0]⟩

theorem pl_acc {α : Type} [DecidableEq α] (b : List α) : ∀ (a : List α) (k : Nat) (acc : List Int), pl a b k acc = (pl a b k []).map (acc ++ ·)
  | [], k, acc => by simp [pl]
  | x :: a, k, acc => by
    unfold pl
    by_cases hi : ix x (b.drop k) < 0
    · rw [if_pos hi, if_pos hi]; rfl
    · rw [if_neg hi, if_neg hi, pl_acc b a _ (acc ++ _), pl_acc b a _ ([] ++ _)]
      cases pl a b (k + (ix x (b.drop k)).toNat + 1) [] <;> simp
/-- What the judge asks of those that come back from the j'th on, the first not before place c. -/
def Tail (l : List Ev) (j c : Nat) : Prop := ∃ q : List Int, pl ((texts l 2).drop j) (texts l 0) c [] = some q ∧
  (∀ (i : Nat) (a s d : Int), q[i]? = some a → (nums l 0)[a.toNat]? = some s → (nums l 2)[j + i]? = some d → s < d) ∧
  ∀ (i : Nat) (a d : Int), q[i]? = some a → (nums l 2)[j + i]? = some d → ∀ (k : Nat) (s : Int), ((i = 0 ∧ c ≤ k) ∨ ∃ b, 0 < i ∧ q[i - 1]? = some b ∧ b < k) → (k : Int) < a → (nums l 0)[k]? = some s → crB l s d (-1) = true
theorem tail_end {l : List Ev} {j c : Nat} (h : (texts l 2).length ≤ j) : Tail l j c := ⟨[], pl_end h, by simp, by simp⟩
theorem tail_step {l : List Ev} {j c : Nat} {x : List UInt8} {d : Int} (hd : Differ (texts l 0)) (hx : (texts l 2)[j]? = some x) (hdj : (nums l 2)[j]? = some d) :
    Tail l j c ↔ ∃ a, c ≤ a ∧ (texts l 0)[a]? = some x ∧ (∃ s, (nums l 0)[a]? = some s ∧ s < d) ∧ (∀ q, c ≤ q → q < a → ∀ s, (nums l 0)[q]? = some s → crB l s d (-1) = true) ∧ Tail l (j + 1) (a + 1) := by
  constructor
  · rintro ⟨q, hq, ho, hs⟩
    by_cases hi : ix x ((texts l 0).drop c) < 0
    · rw [pl_neg hx hi] at hq; cases hq
    · have hhit := ix_hit hi
      rw [drop_get] at hhit
      rw [pl_pos hx hi, pl_acc] at hq
      generalize hA : c + (ix x ((texts l 0).drop c)).toNat = a at *
      have hI : (c : Int) + ix x ((texts l 0).drop c) = (a : Int) := by omega
      cases hp : pl ((texts l 2).drop (j + 1)) (texts l 0) (a + 1) [] with
      | none => rw [hp] at hq; cases hq
      | some q' =>
        rw [hp, hI] at hq
        simp only [Option.map_some, List.nil_append, List.singleton_append, Option.some.injEq] at hq
        subst hq
        obtain ⟨s, hsn⟩ := texts_get hhit
        refine ⟨a, by omega, hhit, ⟨s, hsn, ho 0 a s d rfl (by simpa using hsn) (by simpa using hdj)⟩, fun k hk1 hk2 s' hs' => hs 0 a d rfl (by simpa using hdj) k s' (.inl ⟨rfl, hk1⟩) (by omega) hs', q', hp, fun i b s' d' hb hs' hd' => ?_, fun i b d' hb hd' k s' hk hkb hs' => ?_⟩
        · exact ho (i + 1) b s' d' (by simpa using hb) hs' (by rw [← hd']; congr 1; omega)
        · refine hs (i + 1) b d' (by simpa using hb) (by rw [← hd']; congr 1; omega) k s' (.inr ?_) hkb hs'
          rcases hk with ⟨rfl, hk⟩ | ⟨b', hi0, hb', hk⟩
          · exact ⟨a, by omega, by simp, by omega⟩
          · obtain ⟨i', rfl⟩ : ∃ i', i = i' + 1 := ⟨i - 1, by omega⟩
            exact ⟨b', by omega, by simpa using hb', hk⟩
  · rintro ⟨a, hca, hax, ⟨s, hsn, hsd⟩, hskip, q', hp, ho, hs⟩
    have hi : ix x ((texts l 0).drop c) = ((a - c : Nat) : Int) := ix_at (by rw [drop_get, show c + (a - c) = a from by omega]; exact hax) fun i hi hx' => by
      rw [drop_get] at hx'
      have := hd _ _ x hx' hax
      omega
    have hn : ¬ ix x ((texts l 0).drop c) < 0 := by rw [hi]; omega
    refine ⟨(a : Int) :: q', ?_, fun i b s' d' hb hs' hd' => ?_, fun i b d' hb hd' k s' hk hkb hs' => ?_⟩
    · rw [pl_pos hx hn, pl_acc, hi]
      simp only [Int.toNat_natCast]
      rw [show c + (a - c) + 1 = a + 1 from by omega, hp]
      simp
      omega
    · rcases i with _ | i
      · simp at hb
        subst hb
        rw [Nat.add_zero, hdj] at hd'
        injection hd' with hd'
        subst hd'
        simp only [Int.toNat_natCast] at hs'
        rw [hsn] at hs'
        injection hs' with hs'
        omega
      · exact ho i b s' d' (by simpa using hb) hs' (by rw [← hd']; congr 1; omega)
    · rcases i with _ | i
      · simp at hb
        subst hb
        rw [Nat.add_zero, hdj] at hd'
        injection hd' with hd'
        subst hd'
        rcases hk with ⟨_, hk⟩ | ⟨b', h0, _⟩
        · exact hskip k hk (by omega) s' hs'
        · omega
      · refine hs i b d' (by simpa using hb) (by rw [← hd']; congr 1; omega) k s' ?_ hkb hs'
        rcases hk with ⟨h0, _⟩ | ⟨b', _, hb', hk⟩
        · omega
        · rcases i with _ | i
          · simp at hb'
            subst hb'
            exact .inl ⟨rfl, by omega⟩
          · exact .inr ⟨b', by omega, by simpa using hb', hk⟩
theorem skip_tail (l : List Ev) : SkipP l ↔ Tail l 0 0 := by
  constructor
  · rintro ⟨⟨p, hp, ho⟩, hs⟩
    refine ⟨p, by rw [List.drop_zero]; exact hp, fun i a s d ha hs' hd' => ho i a s d ha hs' (by simpa using hd'), fun i a d ha hd' k s hk hka hs' => hs p hp i a d ha (by simpa using hd') k s ?_ hka hs'⟩
    rcases hk with ⟨h0, _⟩ | ⟨b, _, hb, hk⟩
    · exact .inl h0
    · exact .inr ⟨b, hb, hk⟩
  · rintro ⟨p, hp, ho, hs⟩
    rw [List.drop_zero] at hp
    refine ⟨⟨p, hp, fun i a s d ha hs' hd' => ho i a s d ha hs' (by simpa using hd')⟩, fun p' hp' i a d ha hd' k s hk hka hs' => ?_⟩
    obtain rfl : p = p' := by have : some p = some p' := hp.symm.trans hp'; injection this
    refine hs i a d ha (by simpa using hd') k s ?_ hka hs'
    by_cases h0 : i = 0
    · exact .inl ⟨h0, Nat.zero_le _⟩
    · rcases hk with hk | ⟨b, hb, hk⟩
      · exact absurd hk h0
      · exact .inr ⟨b, by omega, hb, hk⟩
theorem nums_append (kind : Int) (done rest : List Ev) : ∃ T, nums (done ++ rest) kind = nums done kind ++ T := by
  induction rest generalizing done with
  | nil => exact ⟨[], by simp⟩
  | cons e es ih =>
    obtain ⟨T, hT⟩ := ih (done ++ [e])
    rw [nums_snoc, List.append_assoc, List.append_assoc] at hT
    exact ⟨_, hT⟩
/-- What came later than an event was sent later. -/
theorem nums_before {done rest : List Ev} {kind : Int} {q : Nat} {t : Int} (h : (nums (done ++ rest) kind)[q]? = some t) (ht : t < done.length) : (nums done kind)[q]? = some t := by
  induction rest generalizing done with
  | nil => simpa using h
  | cons e es ih =>
    have h1 := ih (done := done ++ [e]) (by simpa using h) (by simp; omega)
    rw [nums_snoc] at h1
    rcases Nat.lt_or_ge q (nums done kind).length with hq | hq
    · rwa [List.getElem?_append_left hq] at h1
    · rw [List.getElem?_append_right hq] at h1
      split at h1
      · have := List.mem_of_getElem? h1
        simp at this
        omega
      · simp at h1
theorem good_tail : ∀ (rest done : List Ev) (c : Nat), Differ (texts (done ++ rest) 0) → (Good done rest c ↔ Tail (done ++ rest) (texts done 2).length c)
  | [], done, c, hd => by
    simp only [Good, List.append_nil, true_iff]
    exact tail_end (Nat.le_refl _)
  | e :: es, done, c, hd => by
    have hl : done ++ e :: es = (done ++ [e]) ++ es := by simp
    have hd' : Differ (texts ((done ++ [e]) ++ es) 0) := by rw [← hl]; exact hd
    unfold Good
    by_cases h2 : e.kind = 2
    · rw [if_pos h2]
      obtain ⟨T2, hT2⟩ := texts_append 2 es (done ++ [e])
      obtain ⟨N2, hN2⟩ := nums_append 2 (done ++ [e]) es
      obtain ⟨T0, hT0⟩ := texts_append 0 (e :: es) done
      obtain ⟨N0, hN0⟩ := nums_append 0 done (e :: es)
      have e2 : texts (done ++ [e]) 2 = texts done 2 ++ [e.data] := by rw [texts_snoc, if_pos h2]
      have n2 : nums (done ++ [e]) 2 = nums done 2 ++ [(done.length : Int)] := by rw [nums_snoc, if_pos h2]
      have hx : (texts (done ++ e :: es) 2)[(texts done 2).length]? = some e.data := by rw [hl, hT2, e2]; simp
      have hdj : (nums (done ++ e :: es) 2)[(texts done 2).length]? = some (done.length : Int) := by rw [hl, hN2, n2, texts_len]; simp
      rw [tail_step hd hx hdj]
      have key : ∀ a, ((texts done 0)[a]? = some e.data ∧ (∀ q, c ≤ q → q < a → ∀ s, (nums done 0)[q]? = some s → crB done s done.length (-1) = true)) ↔
          ((texts (done ++ e :: es) 0)[a]? = some e.data ∧ (∃ s, (nums (done ++ e :: es) 0)[a]? = some s ∧ s < (done.length : Int)) ∧ (∀ q, c ≤ q → q < a → ∀ s, (nums (done ++ e :: es) 0)[q]? = some s → crB (done ++ e :: es) s done.length (-1) = true)) := fun a => by
        constructor
        · rintro ⟨h1, h3⟩
          have hal := lt_of_get h1
          obtain ⟨s, hs⟩ := texts_get h1
          refine ⟨by rw [hT0, List.getElem?_append_left hal]; exact h1, ⟨s, by rw [hN0, List.getElem?_append_left (lt_of_get hs)]; exact hs, nums_lt hs⟩, fun q hq1 hq2 t ht => ?_⟩
          rw [hN0, List.getElem?_append_left (by rw [texts_len] at hal; omega)] at ht
          exact crB_take.2 (h3 q hq1 hq2 t ht)
        · rintro ⟨h1, ⟨s, hs, hsd⟩, h3⟩
          have hs' := nums_before hs hsd
          have hal : a < (texts done 0).length := by rw [texts_len]; exact lt_of_get hs'
          rw [hT0, List.getElem?_append_left hal] at h1
          refine ⟨h1, fun q hq1 hq2 t ht => ?_⟩
          exact crB_take.1 (h3 q hq1 hq2 t (by rw [hN0, List.getElem?_append_left (lt_of_get ht)]; exact ht))
      have ih : ∀ a, Good (done ++ [e]) es (a + 1) ↔ Tail (done ++ e :: es) ((texts done 2).length + 1) (a + 1) := fun a => by
        have := good_tail es (done ++ [e]) (a + 1) hd'
        rw [e2, ← hl] at this
        simpa using this
      constructor
      · rintro ⟨a, h1, h3, h4, h5⟩
        obtain ⟨k1, k2, k3⟩ := (key a).1 ⟨h3, h4⟩
        exact ⟨a, h1, k1, k2, k3, (ih a).1 h5⟩
      · rintro ⟨a, h1, k1, k2, k3, h5⟩
        obtain ⟨h3, h4⟩ := (key a).2 ⟨k1, k2, k3⟩
        exact ⟨a, h1, h3, h4, (ih a).2 h5⟩
    · rw [if_neg h2]
      have e2 : texts (done ++ [e]) 2 = texts done 2 := by rw [texts_snoc, if_neg h2, List.append_nil]
      have := good_tail es (done ++ [e]) c hd'
      rw [e2, ← hl] at this
      exact this
theorem differ_alone {S : List (List UInt8)} (h : aloneB S = true) : Differ S := fun i j x hi hj => by
  have hA := (aloneB_iff S).1 h
  rcases Nat.lt_trichotomy i j with hij | hij | hij
  · exact (hA i j x hij (lt_of_get hj) hi hj).elim
  · exact hij
  · exact (hA j i x hij (lt_of_get hi) hj hi).elim
/-- The law. -/
theorem judge_law (evs : List Ev) (h : aloneB (texts evs 0) = true) : (accI (iq0 true) evs 0).2 = true ↔ SkipP evs := by
  have hd := differ_alone h
  have h1 := lossy_acc evs [] (iq0 true) 0 0 lossy_nil (by simpa using hd)
  have h2 := good_tail evs [] 0 (by simpa using hd)
  rw [h1, h2, skip_tail]
  simp [texts, nums, numsFrom]
end Go.Proofs.Ytjchobncmogcpaa
