/- What was put is got; four bytes side by side that were turned are found. In plain words. -/
import Derived.Test.YtjchobncmogcpaaKeepE
namespace Go.Proofs.Ytjchobncmogcpaa
open Go.RowKit

/-! ### What was put is got -/
def I64 (x : Int) : Prop := -9223372036854775808 ≤ x ∧ x ≤ 9223372036854775807
def EdWf (e : Ed) : Prop := I64 e.kind ∧ I64 e.at_
def ChWf (c : Ch) : Prop := I64 c.kind ∧ I64 c.who ∧ I64 c.at_ ∧ ∀ e ∈ c.edits, EdWf e
def RunWf (r : KRun) : Prop := (I64 r.eng ∧ I64 r.w ∧ I64 r.m ∧ I64 r.l ∧ I64 r.b ∧ I64 r.room) ∧ (0 ≤ r.beg ∧ r.beg < 18446744073709551616) ∧ (∀ n ∈ r.draws, 0 ≤ n ∧ n < 18446744073709551616) ∧ ∀ c ∈ r.chs, ChWf c

theorem tkS_app (a t : List UInt8) (n : Nat) (h : a.length = n) : tkS n (some (a ++ t)) = (a, some t) := by
  subst h
  rw [tkS_y (by simp)]
  simp
theorem wideS_app (x : Int) (t : List UInt8) : wideS (some (wide8 x ++ t)) = ((x % 18446744073709551616).toNat, some t) := by
  have h := tkS_app (wide8 x) t 8 (wide8_len x)
  unfold wideS
  rw [h]
  have h2 : numB (wide8 x) = (x % 18446744073709551616).toNat := by
    unfold wide8
    rw [numB_put]
    have h3 : (256 : Nat) ^ 8 = 18446744073709551616 := by decide
    rw [h3]
    have h4 := Int.emod_lt_of_pos x (show (0 : Int) < 18446744073709551616 by decide)
    exact Nat.mod_eq_of_lt (by omega)
  simp only [h2]
theorem plainS_app {x : Int} (t : List UInt8) (h : I64 x) : plainS (some (wide8 x ++ t)) = (x, some t) := by
  unfold plainS
  rw [wideS_app]
  have h1 := Int.emod_nonneg x (show (18446744073709551616 : Int) ≠ 0 by decide)
  have h2 : wrap64 (((x % 18446744073709551616).toNat : Nat) : Int) = x := by
    rw [Int.toNat_of_nonneg h1]
    unfold wrap64
    unfold I64 at h
    omega
  simp only [h2]
theorem cntS_app {n m : Nat} (t : List UInt8) (h : n ≤ m) (hm : m ≤ 1000000) : cntS m (some (wide8 (n : Int) ++ t)) = (n, some t) := by
  unfold cntS
  rw [wideS_app]
  have h1 : ((n : Int) % 18446744073709551616).toNat = n := by omega
  rw [h1, if_neg (by simp; omega)]
theorem edB_eq (e : Ed) : edB e = wide8 e.kind ++ (wide8 e.at_ ++ wide8 ((e.b.toNat : Nat) : Int)) := by simp [edB, nums8]
theorem edS_app {e : Ed} (t : List UInt8) (h : EdWf e) : edS (some (edB e ++ t)) = (e, some t) := by
  have hb := c_lt e.b
  have h1 := plainS_app (x := e.kind) (wide8 e.at_ ++ (wide8 ((e.b.toNat : Nat) : Int) ++ t)) h.1
  have h2 := plainS_app (x := e.at_) (wide8 ((e.b.toNat : Nat) : Int) ++ t) h.2
  have h3 := cntS_app (n := e.b.toNat) (m := 255) t (by omega) (by omega)
  have e0 : edB e ++ t = wide8 e.kind ++ (wide8 e.at_ ++ (wide8 ((e.b.toNat : Nat) : Int) ++ t)) := by rw [edB_eq]; simp only [List.append_assoc]
  unfold edS
  rw [e0, h1]
  simp only [h2, h3]
  cases e
  simp
theorem edsS_app (t : List UInt8) : ∀ (es acc : List Ed), (∀ e ∈ es, EdWf e) → edsS es.length acc (some (edsB es ++ t)) = (acc ++ es, some t)
  | [], acc, _ => by simp [edsS, edsB]
  | e :: es, acc, h => by
    have e0 : edsB (e :: es) ++ t = edB e ++ (edsB es ++ t) := by simp [edsB]
    rw [e0]
    show edsS es.length (acc ++ [(edS (some (edB e ++ (edsB es ++ t)))).1]) (edS (some (edB e ++ (edsB es ++ t)))).2 = _
    rw [edS_app _ (h e (by simp))]
    rw [edsS_app t es (acc ++ [e]) (fun x hx => h x (by simp [hx]))]
    simp
theorem nums8_one (x : Int) : nums8 [x] = wide8 x := by simp [nums8]
theorem chS_app {c : Ch} (t : List UInt8) (h : ChWf c) (ho : chOk c = true) : chS (some (chB c ++ t)) = (c, some t) := by
  have hl : c.data.length ≤ 255 ∧ c.edits.length ≤ 255 := by unfold chOk at ho; simpa using ho
  have e0 : chB c ++ t = wide8 c.kind ++ (wide8 c.who ++ (wide8 c.at_ ++ (wide8 ((c.data.length : Nat) : Int) ++ (c.data ++ (wide8 ((c.edits.length : Nat) : Int) ++ (edsB c.edits ++ t)))))) := by
    simp [chB, headC, nums8]
  have h1 := plainS_app (x := c.kind) (wide8 c.who ++ (wide8 c.at_ ++ (wide8 ((c.data.length : Nat) : Int) ++ (c.data ++ (wide8 ((c.edits.length : Nat) : Int) ++ (edsB c.edits ++ t)))))) h.1
  have h2 := plainS_app (x := c.who) (wide8 c.at_ ++ (wide8 ((c.data.length : Nat) : Int) ++ (c.data ++ (wide8 ((c.edits.length : Nat) : Int) ++ (edsB c.edits ++ t))))) h.2.1
  have h3 := plainS_app (x := c.at_) (wide8 ((c.data.length : Nat) : Int) ++ (c.data ++ (wide8 ((c.edits.length : Nat) : Int) ++ (edsB c.edits ++ t)))) h.2.2.1
  have h4 := cntS_app (n := c.data.length) (m := 255) (c.data ++ (wide8 ((c.edits.length : Nat) : Int) ++ (edsB c.edits ++ t))) hl.1 (by omega)
  have h5 := tkS_app c.data (wide8 ((c.edits.length : Nat) : Int) ++ (edsB c.edits ++ t)) _ rfl
  have h6 := cntS_app (n := c.edits.length) (m := 255) (edsB c.edits ++ t) hl.2 (by omega)
  have h7 := edsS_app t c.edits [] h.2.2.2
  unfold chS hdS dataS
  rw [e0]
  simp only [h1, h2, h3, h4, h5, h6, h7]
  cases c
  simp
theorem drawsS_app (t : List UInt8) : ∀ (ns acc : List Int), (∀ n ∈ ns, 0 ≤ n ∧ n < 18446744073709551616) → drawsS ns.length acc (some (nums8 ns ++ t)) = (acc ++ ns, some t)
  | [], acc, _ => by simp [drawsS, nums8]
  | n :: ns, acc, h => by
    have e0 : nums8 (n :: ns) ++ t = wide8 n ++ (nums8 ns ++ t) := by simp [nums8]
    have hn := h n (by simp)
    have e1 : (((n % 18446744073709551616).toNat : Nat) : Int) = n := by omega
    rw [e0]
    show drawsS ns.length (acc ++ [((wideS (some (wide8 n ++ (nums8 ns ++ t)))).1 : Int)]) (wideS (some (wide8 n ++ (nums8 ns ++ t)))).2 = _
    rw [wideS_app, e1]
    rw [drawsS_app t ns (acc ++ [n]) (fun x hx => h x (by simp [hx]))]
    simp
theorem chsS_app (t : List UInt8) : ∀ (cs acc : List Ch), (∀ c ∈ cs, ChWf c ∧ chOk c = true) → chsS cs.length acc (some (chsB cs ++ t)) = (acc ++ cs, some t)
  | [], acc, _ => by simp [chsS, chsB]
  | c :: cs, acc, h => by
    have e0 : chsB (c :: cs) ++ t = chB c ++ (chsB cs ++ t) := by simp [chsB]
    rw [e0]
    show chsS cs.length (acc ++ [(chS (some (chB c ++ (chsB cs ++ t)))).1]) (chS (some (chB c ++ (chsB cs ++ t)))).2 = _
    rw [chS_app _ (h c (by simp)).1 (h c (by simp)).2]
    rw [chsS_app t cs (acc ++ [c]) (fun x hx => h x (by simp [hx]))]
    simp
theorem runS_body {r : KRun} (hw : RunWf r) (hr : rightB r = true) : runS (bodyB r) = (r, some []) := by
  obtain ⟨⟨w0, w1, w2, w3, w4, w5⟩, w6, w7, w8⟩ := hw
  unfold rightB at hr
  simp only [Bool.and_eq_true, decide_eq_true_eq] at hr
  obtain ⟨⟨hd, hc⟩, hall⟩ := hr
  have hall' : ∀ c ∈ r.chs, ChWf c ∧ chOk c = true := fun c hcm => ⟨w8 c hcm, List.all_eq_true.1 hall c hcm⟩
  obtain ⟨T, hT⟩ : ∃ T, T = chsB r.chs := ⟨_, rfl⟩
  have e0 : bodyB r = magicB ++ (wide8 r.eng ++ (wide8 r.w ++ (wide8 r.m ++ (wide8 r.l ++ (wide8 r.b ++ (wide8 r.room ++ (wide8 r.beg ++ (wide8 ((r.draws.length : Nat) : Int) ++ (nums8 r.draws ++ (wide8 ((r.chs.length : Nat) : Int) ++ T)))))))))) := by
    rw [hT]; simp [bodyB, headB, nums8]
  have hm := tkS_app magicB (wide8 r.eng ++ (wide8 r.w ++ (wide8 r.m ++ (wide8 r.l ++ (wide8 r.b ++ (wide8 r.room ++ (wide8 r.beg ++ (wide8 ((r.draws.length : Nat) : Int) ++ (nums8 r.draws ++ (wide8 ((r.chs.length : Nat) : Int) ++ T)))))))))) 2 rfl
  have h0 := plainS_app (x := r.eng) (wide8 r.w ++ (wide8 r.m ++ (wide8 r.l ++ (wide8 r.b ++ (wide8 r.room ++ (wide8 r.beg ++ (wide8 ((r.draws.length : Nat) : Int) ++ (nums8 r.draws ++ (wide8 ((r.chs.length : Nat) : Int) ++ T))))))))) w0
  have h1 := plainS_app (x := r.w) (wide8 r.m ++ (wide8 r.l ++ (wide8 r.b ++ (wide8 r.room ++ (wide8 r.beg ++ (wide8 ((r.draws.length : Nat) : Int) ++ (nums8 r.draws ++ (wide8 ((r.chs.length : Nat) : Int) ++ T)))))))) w1
  have h2 := plainS_app (x := r.m) (wide8 r.l ++ (wide8 r.b ++ (wide8 r.room ++ (wide8 r.beg ++ (wide8 ((r.draws.length : Nat) : Int) ++ (nums8 r.draws ++ (wide8 ((r.chs.length : Nat) : Int) ++ T))))))) w2
  have h3 := plainS_app (x := r.l) (wide8 r.b ++ (wide8 r.room ++ (wide8 r.beg ++ (wide8 ((r.draws.length : Nat) : Int) ++ (nums8 r.draws ++ (wide8 ((r.chs.length : Nat) : Int) ++ T)))))) w3
  have h4 := plainS_app (x := r.b) (wide8 r.room ++ (wide8 r.beg ++ (wide8 ((r.draws.length : Nat) : Int) ++ (nums8 r.draws ++ (wide8 ((r.chs.length : Nat) : Int) ++ T))))) w4
  have h5 := plainS_app (x := r.room) (wide8 r.beg ++ (wide8 ((r.draws.length : Nat) : Int) ++ (nums8 r.draws ++ (wide8 ((r.chs.length : Nat) : Int) ++ T)))) w5
  have h6 := wideS_app r.beg (wide8 ((r.draws.length : Nat) : Int) ++ (nums8 r.draws ++ (wide8 ((r.chs.length : Nat) : Int) ++ T)))
  have h7 := cntS_app (n := r.draws.length) (m := 200) (nums8 r.draws ++ (wide8 ((r.chs.length : Nat) : Int) ++ T)) hd (by omega)
  have h8 := drawsS_app (wide8 ((r.chs.length : Nat) : Int) ++ T) r.draws [] w7
  have h9 := cntS_app (n := r.chs.length) (m := 500) T hc (by omega)
  have h10 : chsS r.chs.length [] (some T) = (r.chs, some []) := by
    have := chsS_app [] r.chs [] hall'
    rw [List.append_nil, ← hT] at this
    simpa using this
  have hb : (((r.beg % 18446744073709551616).toNat : Nat) : Int) = r.beg := by omega
  unfold runS
  rw [e0]
  simp only [hm, h0, h1, h2, h3, h4, h5, h6, h7, h8, h9, h10, hb, if_true, List.nil_append]

/-! ### Four bytes side by side -/
theorem steps_shift8 (x c : Nat) : stepsN 8 x ^^^ c = stepsN 8 (x ^^^ 256 * c) := by
  rw [stepsN_xor, show (256 : Nat) = 2 ^ 8 from rfl, stepsN_shift]
/-- Four bytes as one number, the lowest first. -/
def word4 (a b c d : UInt8) : Nat := a.toNat ^^^ 256 * b.toNat ^^^ 65536 * c.toNat ^^^ 16777216 * d.toNat
theorem feed4 (x : Nat) (a b c d : UInt8) : feed x [a, b, c, d] = stepsN 32 (x ^^^ word4 a b c d) := by
  show stepsN 8 (stepsN 8 (stepsN 8 (stepsN 8 (x ^^^ a.toNat) ^^^ b.toNat) ^^^ c.toNat) ^^^ d.toNat) = _
  have e16 : ∀ y, stepsN 8 (stepsN 8 y) = stepsN 16 y := fun y => (stepsN_add 8 8 y).symm
  have e24 : ∀ y, stepsN 8 (stepsN 16 y) = stepsN 24 y := fun y => (stepsN_add 8 16 y).symm
  have e32 : ∀ y, stepsN 8 (stepsN 24 y) = stepsN 32 y := fun y => (stepsN_add 8 24 y).symm
  have s1 : stepsN 8 (x ^^^ a.toNat) ^^^ b.toNat = stepsN 8 (x ^^^ a.toNat ^^^ 256 * b.toNat) := steps_shift8 _ _
  have s2 : ∀ y, stepsN 16 y ^^^ c.toNat = stepsN 16 (y ^^^ 65536 * c.toNat) := fun y => by rw [stepsN_xor 16 _ (65536 * c.toNat), show (65536 : Nat) = 2 ^ 16 from rfl, stepsN_shift]
  have s3 : ∀ y, stepsN 24 y ^^^ d.toNat = stepsN 24 (y ^^^ 16777216 * d.toNat) := fun y => by rw [stepsN_xor 24 _ (16777216 * d.toNat), show (16777216 : Nat) = 2 ^ 24 from rfl, stepsN_shift]
  rw [s1, e16, s2, e24, s3, e32]
  unfold word4
  simp only [Nat.xor_assoc]
theorem mul_xor (k a b : Nat) : 2 ^ k * (a ^^^ b) = 2 ^ k * a ^^^ 2 ^ k * b := by
  apply Nat.eq_of_testBit_eq
  intro i
  simp only [Nat.testBit_xor, Nat.testBit_two_pow_mul]
  by_cases h : k ≤ i <;> simp [h]
theorem word4_lay {s : Nat} (h : s < 4294967296) : word4 (UInt8.ofNat (s % 256)) (UInt8.ofNat (s / 256 % 256)) (UInt8.ofNat (s / 256 / 256 % 256)) (UInt8.ofNat (s / 256 / 256 / 256 % 256)) = s := by
  unfold word4
  rw [u8_of _ (by omega), u8_of _ (by omega), u8_of _ (by omega), u8_of _ (by omega)]
  have h4 : s / 256 / 256 / 256 % 256 = s / 256 / 256 / 256 := by omega
  rw [h4]
  have e1 := split_low s
  have e2 := split_low (s / 256)
  have e3 := split_low (s / 256 / 256)
  have m1 : 256 * (s / 256) = 256 * (s / 256 % 256) ^^^ 65536 * (s / 256 / 256) := by
    conv => lhs; rw [e2]
    rw [show (256 : Nat) = 2 ^ 8 from rfl, mul_xor]
    simp only [show (2 : Nat) ^ 8 = 256 from rfl]
    congr 1
    omega
  have m2 : 65536 * (s / 256 / 256) = 65536 * (s / 256 / 256 % 256) ^^^ 16777216 * (s / 256 / 256 / 256) := by
    conv => lhs; rw [e3]
    rw [show (65536 : Nat) = 2 ^ 16 from rfl, mul_xor]
    simp only [show (2 : Nat) ^ 16 = 65536 from rfl]
    congr 1
    omega
  conv => rhs; rw [e1, m1, m2]
  simp only [Nat.xor_assoc]
theorem word4_lt (a b c d : UInt8) : word4 a b c d < 4294967296 := by
  unfold word4
  have ha := c_lt a
  have hb := c_lt b
  have hc := c_lt c
  have hd := c_lt d
  exact Nat.xor_lt_two_pow (n := 32) (Nat.xor_lt_two_pow (n := 32) (Nat.xor_lt_two_pow (n := 32) (by omega) (by omega)) (by omega)) (by omega)
theorem word4_xor (a b c d a' b' c' d' : UInt8) : word4 (a ^^^ a') (b ^^^ b') (c ^^^ c') (d ^^^ d') = word4 a b c d ^^^ word4 a' b' c' d' := by
  unfold word4
  simp only [UInt8.toNat_xor]
  rw [show (256 : Nat) = 2 ^ 8 from rfl, show (65536 : Nat) = 2 ^ 16 from rfl, show (16777216 : Nat) = 2 ^ 24 from rfl, mul_xor, mul_xor, mul_xor]
  apply Nat.eq_of_testBit_eq
  intro i
  simp only [Nat.testBit_xor]
  generalize a.toNat.testBit i = p1
  generalize a'.toNat.testBit i = p2
  generalize (2 ^ 8 * b.toNat).testBit i = p3
  generalize (2 ^ 8 * b'.toNat).testBit i = p4
  generalize (2 ^ 16 * c.toNat).testBit i = p5
  generalize (2 ^ 16 * c'.toNat).testBit i = p6
  generalize (2 ^ 24 * d.toNat).testBit i = p7
  generalize (2 ^ 24 * d'.toNat).testBit i = p8
  cases p1 <;> cases p2 <;> cases p3 <;> cases p4 <;> cases p5 <;> cases p6 <;> cases p7 <;> cases p8 <;> rfl
theorem feed_lay (x s : Nat) (h : s < 4294967296) : feed x (layB s) = stepsN 32 (x ^^^ s) := by
  rw [layB_eq, feed4, word4_lay h]
theorem crc_all (b : List UInt8) : feed ones (crcPut b) = stepsN 32 ones := by
  unfold crcPut
  rw [feed_append, feed_lay _ _ (crcOf_lt b)]
  unfold crcOf
  rw [← Nat.xor_assoc, Nat.xor_self, Nat.zero_xor]
theorem crcCheck_all {xs : List UInt8} {b : List UInt8} (h : crcCheck xs = some b) : feed ones xs = stepsN 32 ones := by
  unfold crcCheck at h
  split at h
  · cases h
  · split at h
    · rename_i h1 h2
      have h3 := crc_all (xs.take (xs.length - 4))
      unfold crcPut at h3
      rw [← h2, List.take_append_drop] at h3
      exact h3
    · cases h
theorem crcPut_len (b : List UInt8) : (crcPut b).length = b.length + 4 := by unfold crcPut; rw [List.length_append, layB_len]
theorem crcCheck_of (b : List UInt8) : crcCheck (crcPut b) = some b := by
  have hl := crcPut_len b
  unfold crcCheck
  rw [if_neg (by omega), hl, Nat.add_sub_cancel]
  have e1 : (crcPut b).take b.length = b := by unfold crcPut; simp
  have e2 : (crcPut b).drop b.length = layB (crcOf b) := by unfold crcPut; simp
  rw [e1, e2, if_pos rfl]
theorem feed_inj : ∀ (b : List UInt8) {x y : Nat}, x < 4294967296 → y < 4294967296 → feed x b = feed y b → x = y
  | [], _, _, _, _, h => h
  | c :: b, x, y, hx, hy, h => by
    have h1 : feedB x c = feedB y c := feed_inj b (feedB_lt hx c) (feedB_lt hy c) h
    have h2 := stepsN_inj 8 (Nat.xor_lt_two_pow (n := 32) hx (by have := c_lt c; omega)) (Nat.xor_lt_two_pow (n := 32) hy (by have := c_lt c; omega)) h1
    have h3 : (x ^^^ c.toNat) ^^^ c.toNat = (y ^^^ c.toNat) ^^^ c.toNat := by rw [h2]
    rwa [Nat.xor_assoc, Nat.xor_assoc, Nat.xor_self, Nat.xor_zero, Nat.xor_zero] at h3
theorem turned_none (p s : List UInt8) (a b c d : UInt8) (t : Nat) (ht : t < 4294967296) (h0 : t ≠ 0) (hv : ∃ z, crcCheck (p ++ [a, b, c, d] ++ s) = some z) :
    crcCheck (p ++ [a ^^^ UInt8.ofNat (t % 256), b ^^^ UInt8.ofNat (t / 256 % 256), c ^^^ UInt8.ofNat (t / 256 / 256 % 256), d ^^^ UInt8.ofNat (t / 256 / 256 / 256 % 256)] ++ s) = none := by
  obtain ⟨z, hz⟩ := hv
  cases hn : crcCheck (p ++ [a ^^^ UInt8.ofNat (t % 256), b ^^^ UInt8.ofNat (t / 256 % 256), c ^^^ UInt8.ofNat (t / 256 / 256 % 256), d ^^^ UInt8.ofNat (t / 256 / 256 / 256 % 256)] ++ s) with
  | none => rfl
  | some z' =>
    exfalso
    have h1 := crcCheck_all hz
    have h2 := crcCheck_all hn
    have hp : feed ones p < 4294967296 := feed_lt p (by decide)
    rw [feed_append, feed_append, feed4] at h1 h2
    rw [word4_xor, word4_lay ht] at h2
    have hw := word4_lt a b c d
    have hx1 : feed ones p ^^^ word4 a b c d < 4294967296 := Nat.xor_lt_two_pow (n := 32) hp hw
    have hx2 : feed ones p ^^^ (word4 a b c d ^^^ t) < 4294967296 := Nat.xor_lt_two_pow (n := 32) hp (Nat.xor_lt_two_pow (n := 32) hw ht)
    have h3 := feed_inj s (stepsN_lt 32 hx1) (stepsN_lt 32 hx2) (h1.trans h2.symm)
    have h4 := stepsN_inj 32 hx1 hx2 h3
    rw [← Nat.xor_assoc] at h4
    have h5 : (feed ones p ^^^ word4 a b c d) ^^^ (feed ones p ^^^ word4 a b c d) = (feed ones p ^^^ word4 a b c d) ^^^ ((feed ones p ^^^ word4 a b c d) ^^^ t) := by rw [← h4]
    rw [Nat.xor_self, ← Nat.xor_assoc, Nat.xor_self, Nat.zero_xor] at h5
    exact h0 h5.symm
end Go.Proofs.Ytjchobncmogcpaa
