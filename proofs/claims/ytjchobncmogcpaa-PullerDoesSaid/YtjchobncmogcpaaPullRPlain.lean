/- The puller's reference in plain words. No program in sight. -/
import Derived.Test.YtjchobncmogcpaaTells
import Derived.Test.YtjchobncmogcpaaTake
namespace Go.Proofs.Ytjchobncmogcpaa
open Go.RowKit

/-- What holds of a puller. -/
structure PuOk (c : Cfg) (s : Pu) : Prop where
  asc : s.ah.Pairwise (fun a b => a.1 < b.1)
  bnd : ∀ p ∈ s.ah, (s.ent : Int) ≤ p.1 ∧ p.1 < s.ent + c.w ∧ p.2.length ≤ 64
  cap : (s.q.length : Int) ≤ c.room
  short : ∀ x ∈ s.q, x.length ≤ 64
theorem hlook_cons (p : Int × List UInt8) (l : List (Int × List UInt8)) (k : Int) : hlook (p :: l) k = if k = p.1 then some p.2 else hlook l k := by
  unfold hlook
  by_cases h : k = p.1 <;> simp [h]
theorem hlook_low {l : List (Int × List UInt8)} {k : Int} (h : ∀ p ∈ l, k < p.1) : hlook l k = none := by
  unfold hlook
  rw [List.find?_eq_none.2 (fun p hp => by
    have := h p hp
    simp
    omega)]
  rfl
theorem hdel_low {l : List (Int × List UInt8)} {k : Int} (h : ∀ p ∈ l, k < p.1) : hdel l k = l := by
  unfold hdel
  refine List.filter_eq_self.2 fun p hp => ?_
  have := h p hp
  simp
  omega
/-- The first of them. -/
theorem PuOk.head {c : Cfg} {s : Pu} (h : PuOk c s) : (s.ah = [] ∧ hlook s.ah s.ent = none) ∨ ∃ k x l, s.ah = (k, x) :: l ∧ hlook s.ah s.ent = (if k = s.ent then some x else none) ∧ (k = s.ent → hdel s.ah s.ent = l) := by
  have ha := h.asc
  have hb := h.bnd
  cases hah : s.ah with
  | nil => exact .inl ⟨rfl, rfl⟩
  | cons p l =>
    obtain ⟨k, x⟩ := p
    rw [hah] at ha hb
    rw [List.pairwise_cons] at ha
    have hk := (hb (k, x) (by simp)).1
    refine .inr ⟨k, x, l, rfl, ?_, fun he => ?_⟩
    · rw [hlook_cons]
      by_cases he : k = s.ent
      · rw [if_pos he.symm, if_pos he]
      · rw [if_neg (fun e => he e.symm), if_neg he]
        exact hlook_low fun q hq => by have := ha.1 q hq; simp only at this hk; omega
    · unfold hdel
      rw [List.filter_cons, if_neg (by simp [he])]
      exact hdel_low (k := s.ent) fun q hq => by have := ha.1 q hq; simp only at this; omega
theorem PuOk.step {c : Cfg} {s : Pu} (h : PuOk c s) {k : Int} {x : List UInt8} {l : List (Int × List UInt8)} (ha : s.ah = (k, x) :: l) (hk : k = s.ent) (hr : (s.q.length : Int) < c.room) : PuOk c ⟨s.ent + 1, s.ret, s.q ++ [x], l⟩ := by
  have h1 := h.asc
  have h2 := h.bnd
  rw [ha] at h1 h2
  rw [List.pairwise_cons] at h1
  refine ⟨h1.2, fun p hp => ?_, ?_, fun y hy => ?_⟩
  · have := h1.1 p hp
    have := h2 p (List.mem_cons_of_mem _ hp)
    simp only at *
    refine ⟨?_, ?_, this.2.2⟩
    · have : s.ent < p.1 := by omega
      push_cast
      omega
    · push_cast
      omega
  · simp only [List.length_append, List.length_singleton]
    omega
  · rcases List.mem_append.1 hy with hy | hy
    · exact h.short y hy
    · simp at hy; subst hy
      exact (h2 (k, y) (by simp)).2.2
theorem enterF_ok {c : Cfg} : ∀ (n : Nat) {s : Pu}, PuOk c s → (s.q.length : Int) + n ≤ c.room → PuOk c (enterF n s)
  | 0, s, h, _ => h
  | n + 1, s, h, hr => by
    unfold enterF
    rcases h.head with ⟨h1, h2⟩ | ⟨k, x, l, h1, h2, h3⟩
    · rw [h2]; exact h
    · rw [h2]
      by_cases hk : k = s.ent
      · rw [if_pos hk]
        simp only
        rw [h3 hk]
        exact enterF_ok n (h.step h1 hk (by omega)) (by simp only [List.length_append, List.length_singleton]; push_cast; omega)
      · rw [if_neg hk]; exact h
theorem enterS_ok {c : Cfg} {s : Pu} (h : PuOk c s) (hr : 1 ≤ c.room) : PuOk c (enterS c.room.toNat s) := by
  unfold enterS
  have := h.cap
  exact enterF_ok _ h (by omega)
theorem hins_mem : ∀ (l : List (Int × List UInt8)) (k : Int) (x : List UInt8), ∀ p ∈ hins l k x, p = (k, x) ∨ p ∈ l
  | [], k, x, p, h => by simp [hins] at h; exact .inl h
  | a :: l, k, x, p, h => by
    unfold hins at h
    split at h
    · rcases List.mem_cons.1 h with rfl | h
      · exact .inr (by simp)
      · rcases hins_mem l k x p h with h | h
        · exact .inl h
        · exact .inr (by simp [h])
    · rcases List.mem_cons.1 h with rfl | h
      · exact .inl rfl
      · exact .inr h
theorem hins_asc : ∀ (l : List (Int × List UInt8)) (k : Int) (x : List UInt8), l.Pairwise (fun a b => a.1 < b.1) → hlook l k = none → (hins l k x).Pairwise (fun a b => a.1 < b.1)
  | [], k, x, _, _ => by simp [hins]
  | a :: l, k, x, h, hl => by
    have h' := List.pairwise_cons.1 h
    rw [hlook_cons] at hl
    have hne : ¬ k = a.1 := fun e => by rw [if_pos e] at hl; cases hl
    rw [if_neg hne] at hl
    unfold hins
    split
    · rename_i h1
      refine List.pairwise_cons.2 ⟨fun p hp => ?_, hins_asc l k x h'.2 hl⟩
      rcases hins_mem l k x p hp with rfl | hp
      · exact h1
      · exact h'.1 p hp
    · rename_i h1
      refine List.pairwise_cons.2 ⟨fun p hp => ?_, h⟩
      show k < p.1
      rcases List.mem_cons.1 hp with rfl | hp
      · omega
      · have := h'.1 p hp; omega
/-- Where a place would stand. -/
def hplace (l : List (Int × List UInt8)) (k : Int) : Nat := (l.takeWhile fun p => decide (p.1 < k)).length
def hfound (l : List (Int × List UInt8)) (k : Int) : Bool := (l[hplace l k]?).any fun p => p.1 == k
theorem hplace_le (l : List (Int × List UInt8)) (k : Int) : hplace l k ≤ l.length := (List.takeWhile_sublist _).length_le
theorem hplace_cons (p : Int × List UInt8) (l : List (Int × List UInt8)) (k : Int) : hplace (p :: l) k = if p.1 < k then hplace l k + 1 else 0 := by
  unfold hplace
  rw [List.takeWhile_cons]
  by_cases h : p.1 < k <;> simp [h]
theorem hplace_is {l : List (Int × List UInt8)} {k : Int} {j : Nat} (h1 : ∀ (i : Nat) (p : Int × List UInt8), i < j → l[i]? = some p → p.1 < k) (h2 : ∀ p : Int × List UInt8, l[j]? = some p → k ≤ p.1) (hj : j ≤ l.length) : hplace l k = j := by
  induction l generalizing j with
  | nil => simp at hj; subst hj; rfl
  | cons a l ih =>
    rw [hplace_cons]
    cases j with
    | zero =>
      have := h2 a rfl
      rw [if_neg (by omega)]
    | succ j =>
      have := h1 0 a (by omega) rfl
      rw [if_pos this, ih (j := j) (fun i p hi hp => h1 (i + 1) p (by omega) hp) h2 (by simpa using hj)]
theorem hins_is : ∀ (l : List (Int × List UInt8)) (k : Int) (x : List UInt8), hins l k x = l.take (hplace l k) ++ (k, x) :: l.drop (hplace l k)
  | [], k, x => by simp [hins, hplace]
  | a :: l, k, x => by
    unfold hins
    rw [hplace_cons]
    by_cases h : a.1 < k
    · rw [if_pos h, if_pos h, hins_is l k x]
      simp
    · rw [if_neg h, if_neg h]
      simp
theorem hfound_is : ∀ {l : List (Int × List UInt8)} (_ : l.Pairwise (fun a b => a.1 < b.1)) (k : Int), hfound l k = (hlook l k).isSome
  | [], _, k => by simp [hfound, hplace, hlook]
  | a :: l, hp, k => by
    have hp' := List.pairwise_cons.1 hp
    have ih := hfound_is hp'.2 k
    unfold hfound at ih ⊢
    rw [hplace_cons, hlook_cons]
    by_cases h : a.1 < k
    · rw [if_pos h, if_neg (by omega), List.getElem?_cons_succ, ih]
    · rw [if_neg h]
      by_cases h2 : k = a.1
      · simp [h2]
      · rw [if_neg h2, hlook_low fun q hq => by have := hp'.1 q hq; omega]
        simp [show ¬ a.1 = k from fun e => h2 e.symm]
theorem keepS_ok {c : Cfg} {s : Pu} (h : PuOk c s) (seq : Int) (data : List UInt8) (hm : 1 ≤ c.m) : PuOk c (keepS c.w c.m s seq data) := by
  unfold keepS
  split
  · rename_i hc
    obtain ⟨h1, h2, h3⟩ := hc
    refine ⟨hins_asc _ _ _ h.asc h2, fun p hp => ?_, h.cap, h.short⟩
    rcases hins_mem _ _ _ p hp with rfl | hp
    · refine ⟨?_, ?_, h3⟩
      · unfold nearV at h1 ⊢
        split
        · rename_i hb; rw [if_pos hb] at h1; cases h1
        · show (s.ent : Int) ≤ s.ent + nearN s.ent seq c.m
          have : 0 ≤ nearN s.ent seq c.m := by unfold nearN; exact Int.emod_nonneg _ (by omega)
          omega
      · unfold nearV at h1 ⊢
        split
        · rename_i hb; rw [if_pos hb] at h1; cases h1
        · show (s.ent : Int) + nearN s.ent seq c.m < s.ent + c.w
          omega
    · exact h.bnd p hp
  · exact h
theorem recvS_ok {c : Cfg} {s s' : Pu} {x : List UInt8} (h : PuOk c s) (hr1 : 1 ≤ c.room) (hr : recvS c.room.toNat s = some (x, s')) : PuOk c s' := by
  unfold recvS at hr
  cases hq : s.q with
  | nil => rw [hq] at hr; cases hr
  | cons y q =>
    rw [hq] at hr
    injection hr with hr
    injection hr with e1 e2
    rw [← e2]
    have hc := h.cap
    rw [hq] at hc
    refine enterS_ok (c := c) ⟨h.asc, h.bnd, ?_, fun z hz => h.short z (by rw [hq]; simp [hz])⟩ hr1
    simp only [List.length_cons] at hc
    simp only
    omega

/-- The sum of the bits. -/
def sumB (ent : Nat) (k : Nat) : List (Int × List UInt8) → Nat
  | [] => 0
  | p :: l => (if p.1 < ent + k then 2 ^ (p.1 - ent).toNat else 0) + sumB ent k l
theorem sumB_step (ent k : Nat) : ∀ {l : List (Int × List UInt8)}, l.Pairwise (fun a b => a.1 < b.1) → sumB ent (k + 1) l = sumB ent k l + if (hlook l ((ent : Int) + (k : Int))).isSome = true then 2 ^ k else 0
  | [], _ => by simp [sumB, hlook]
  | a :: l, hp => by
    have hp' := List.pairwise_cons.1 hp
    have ih := sumB_step ent k hp'.2
    unfold sumB
    rw [ih, hlook_cons]
    by_cases h1 : (ent : Int) + (k : Int) = a.1
    · have hl : hlook l ((ent : Int) + (k : Int)) = none := hlook_low fun q hq => by have := hp'.1 q hq; omega
      have h3 : a.1 < (ent : Int) + ((k + 1 : Nat) : Int) := by push_cast; omega
      have h4 : ¬ a.1 < (ent : Int) + (k : Int) := by omega
      have : (a.1 - ent).toNat = k := by omega
      rw [hl, if_pos h1, if_pos h3, if_neg h4, this]
      simp
      omega
    · rw [if_neg h1]
      by_cases h2 : a.1 < ent + k
      · rw [if_pos (by push_cast; omega), if_pos h2]
        omega
      · rw [if_neg (by push_cast; omega), if_neg h2]
        omega
theorem sumB_zero {ent : Nat} : ∀ {l : List (Int × List UInt8)}, (∀ p ∈ l, (ent : Int) ≤ p.1) → sumB ent 0 l = 0
  | [], _ => rfl
  | a :: l, h => by
    unfold sumB
    have := h a (by simp)
    rw [if_neg (by simp; omega), sumB_zero fun p hp => h p (by simp [hp])]
theorem sumB_lt {ent : Nat} {l : List (Int × List UInt8)} (hp : l.Pairwise (fun a b => a.1 < b.1)) (h : ∀ p ∈ l, (ent : Int) ≤ p.1) : ∀ k, sumB ent k l < 2 ^ k
  | 0 => by rw [sumB_zero h]; decide
  | k + 1 => by
    have := sumB_lt hp h k
    rw [sumB_step ent k hp, Nat.pow_succ]
    split <;> omega
theorem or_pow {x k : Nat} (hx : x < 2 ^ k) (hk : k < 64) : bits BinOp.or IntKind.u64 (x : Int) (IntKind.u64.wrap (2 ^ k)) = ((x + 2 ^ k : Nat) : Int) := by
  have h2 : (2 : Nat) ^ k < 2 ^ 64 := Nat.pow_lt_pow_right (by decide) hk
  have h64 : (2 : Nat) ^ 64 = 18446744073709551616 := by decide
  have hw : IntKind.u64.wrap (2 ^ k) = ((2 ^ k : Nat) : Int) := by
    have : (0 : Int) ≤ ((2 ^ k : Nat) : Int) ∧ ((2 ^ k : Nat) : Int) ≤ 18446744073709551615 := by omega
    have e : ((2 : Int) ^ k) = ((2 ^ k : Nat) : Int) := by push_cast; rfl
    rw [e]
    exact IntWalk.u64_in _ this
  rw [hw]
  unfold bits
  have e1 : BitVec.ofInt IntKind.u64.bits (x : Int) = BitVec.ofNat 64 x := by
    show BitVec.ofInt 64 (x : Int) = _
    exact BitVec.ofInt_natCast 64 x
  have e2 : BitVec.ofInt IntKind.u64.bits (((2 ^ k : Nat) : Int)) = BitVec.ofNat 64 (2 ^ k) := BitVec.ofInt_natCast 64 (2 ^ k)
  simp only [e1, e2]
  have e3 : (BitVec.ofNat 64 x ||| BitVec.ofNat 64 (2 ^ k)).toNat = x + 2 ^ k := by
    rw [BitVec.toNat_or, BitVec.toNat_ofNat, BitVec.toNat_ofNat, Nat.mod_eq_of_lt (by omega), Nat.mod_eq_of_lt h2]
    have := Nat.two_pow_add_eq_or_of_lt hx 1
    rw [Nat.mul_one] at this
    rw [Nat.or_comm, ← this, Nat.add_comm]
  have hlt : x + 2 ^ k < 2 ^ 64 := by
    have : 2 ^ k * 2 ≤ (2 : Nat) ^ 64 := by
      rw [← Nat.pow_succ]
      exact Nat.pow_le_pow_right (by decide) hk
    omega
  show IntKind.u64.wrap ((BitVec.ofNat 64 x ||| BitVec.ofNat 64 (2 ^ k)).toNat : Int) = _
  rw [e3]
  exact IntWalk.u64_in _ (by omega)
theorem bitsT_is {ent : Nat} {l : List (Int × List UInt8)} (hp : l.Pairwise (fun a b => a.1 < b.1)) (h : ∀ p ∈ l, (ent : Int) ≤ p.1) : ∀ k, k ≤ 64 → bitsT l ent k = (sumB ent k l : Int)
  | 0, _ => by rw [sumB_zero h]; rfl
  | k + 1, hk => by
    have ih := bitsT_is hp h k (by omega)
    unfold bitsT
    rw [ih, sumB_step ent k hp]
    split
    · exact or_pow (sumB_lt hp h k) (by omega)
    · simp
/-- What the reference sums, of the first of them. -/
def sumR (ent : Nat) : List (Int × List UInt8) → Nat
  | [] => 0
  | p :: l => 2 ^ (p.1 - ent).toNat + sumR ent l
theorem sumR_is {ent k : Nat} : ∀ {l : List (Int × List UInt8)}, (∀ p ∈ l, p.1 < ent + k) → sumB ent k l = sumR ent l
  | [], _ => rfl
  | a :: l, h => by
    unfold sumB sumR
    rw [if_pos (h a (by simp)), sumR_is fun p hp => h p (by simp [hp])]
theorem sumR_append (ent : Nat) : ∀ (l m : List (Int × List UInt8)), sumR ent (l ++ m) = sumR ent l + sumR ent m
  | [], m => by simp [sumR]
  | a :: l, m => by
    show 2 ^ (a.1 - ent).toNat + sumR ent (l ++ m) = 2 ^ (a.1 - ent).toNat + sumR ent l + sumR ent m
    rw [sumR_append ent l m]
    omega
theorem sumR_take (ent : Nat) (l : List (Int × List UInt8)) (j : Nat) : sumR ent (l.take j) ≤ sumR ent l := by
  have := sumR_append ent (l.take j) (l.drop j)
  rw [List.take_append_drop] at this
  omega
theorem PuOk.bits {c : Cfg} {s : Pu} (h : PuOk c s) (hw : c.w ≤ 64) (hw1 : 1 ≤ c.w) : bitsT s.ah s.ent c.w.toNat = (sumR s.ent s.ah : Int) ∧ sumR s.ent s.ah < 18446744073709551616 := by
  have h1 : ∀ p ∈ s.ah, (s.ent : Int) ≤ p.1 := fun p hp => (h.bnd p hp).1
  have h2 := sumR_is (ent := s.ent) (k := c.w.toNat) (l := s.ah) fun p hp => by have := (h.bnd p hp).2.1; omega
  rw [bitsT_is h.asc h1 _ (by omega), h2]
  refine ⟨rfl, ?_⟩
  have h3 := sumB_lt h.asc h1 c.w.toNat
  have h4 : (2 : Nat) ^ c.w.toNat ≤ 2 ^ 64 := Nat.pow_le_pow_right (by decide) (by omega)
  have h64 : (2 : Nat) ^ 64 = 18446744073709551616 := by decide
  omega
/-- The first number near. -/
theorem near_found {base seq m : Int} {j : Nat} (hm : 1 ≤ m) (h : (base + j) % m = seq) (hj : (j : Int) ≤ nearN base seq m) : nearN base seq m = j := by
  unfold nearN at *
  subst h
  have h0 : ((base + j) % m - base % m) % m = (j : Int) % m := by
    rw [Int.sub_emod, Int.emod_emod_of_dvd _ (Int.dvd_refl m), Int.emod_emod_of_dvd _ (Int.dvd_refl m), ← Int.sub_emod]
    congr 1
    omega
  rw [h0] at hj ⊢
  have h1 := Int.emod_lt_of_pos (j : Int) (show 0 < m by omega)
  exact Int.emod_eq_of_lt (by omega) (by omega)
theorem near_next {base seq m : Int} {j : Nat} (hm : 1 ≤ m) (hs : 0 ≤ seq) (hs2 : seq < m) (h : (base + j) % m ≠ seq) (hj : (j : Int) ≤ nearN base seq m) : (j : Int) + 1 ≤ nearN base seq m := by
  have hne : (j : Int) ≠ nearN base seq m := fun e => by
    apply h
    rw [e]
    unfold nearN
    rw [Int.add_emod, Int.emod_emod_of_dvd _ (Int.dvd_refl m), ← Int.add_emod, show base + (seq - base % m) = seq + (base - base % m) from by omega]
    have : base - base % m = m * (base / m) := by have := Int.emod_add_mul_ediv base m; omega
    rw [this, Int.add_mul_emod_self_left]
    exact Int.emod_eq_of_lt hs hs2
  omega
end Go.Proofs.Ytjchobncmogcpaa
