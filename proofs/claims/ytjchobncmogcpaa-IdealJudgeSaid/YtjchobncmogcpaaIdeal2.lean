/- The walks of ideal's least, reached, returned. -/
import Derived.Test.YtjchobncmogcpaaIdeal
namespace Go.Proofs.Ytjchobncmogcpaa
open Go.RowKit

theorem alook_put' {κ : Type} [DecidableEq κ] (l : List (κ × Value)) (k : κ) (v : Value) (k' : κ) : alook (aput l k v) k' = if k = k' then some v else alook l k' := by
  induction l with
  | nil =>
    by_cases h : k = k'
    · subst h; simp [alook, aput]
    · have : decide (k' = k) = false := decide_eq_false (fun e => h e.symm)
      simp [alook, aput, this, h]
  | cons p l ih =>
    simp only [aput]
    by_cases hp : k = p.1
    · rw [if_pos hp]
      by_cases h : k = k'
      · subst h; simp [alook]
      · have h1 : decide (k' = k) = false := decide_eq_false (fun e => h e.symm)
        have h2 : decide (k' = p.1) = false := by rw [← hp]; exact h1
        rw [if_neg h]
        unfold alook
        rw [List.find?_cons, h1, List.find?_cons, h2]
    · rw [if_neg hp]
      by_cases h : k' = p.1
      · have h1 : decide (k' = p.1) = true := decide_eq_true h
        have h2 : ¬ k = k' := by rw [h]; exact hp
        rw [if_neg h2]
        unfold alook
        rw [List.find?_cons, h1, List.find?_cons, h1]
      · have h1 : decide (k' = p.1) = false := decide_eq_false h
        unfold alook at ih ⊢
        rw [List.find?_cons, h1, List.find?_cons, h1]
        exact ih
theorem IsSlice.form' {α : Type} {r : Rep α} {w : World} {S : Nat → Prop} {v} {xs : List α} (h : IsSlice r w S v xs) : ∃ A c, v = .slice A xs.length c ∧ xs.length ≤ c ∧ c ≤ maxLen ∧ RowAt r w S A xs.length xs := by
  obtain ⟨A, n, c, rfl, h1, h2, h3⟩ := h
  have h4 := h3.1
  subst h4
  exact ⟨A, c, rfl, h1, h2, h3⟩
def leastI (s : Iq) : Int := match s.at_ with | [] => s.sent.length | k :: _ => k
def reachB (s : Iq) (p least : Int) : Bool := decide (p ∈ s.at_ ∨ (least < p ∧ p ≤ s.lost))
theorem iqCells {w : World} {gq gm : Nat} {s : Iq} {v : Value} (h : Blk w gq 188 #[.bool s.lossy, .bool s.stuck, v, .int .i64 s.lost, .map (some gm)]) :
    w.cell? ⟨gq, 0, none⟩ = some (.bool s.lossy) ∧ w.cell? ⟨gq, 1, none⟩ = some (.bool s.stuck) ∧ w.cell? ⟨gq, 2, none⟩ = some v ∧ w.cell? ⟨gq, 3, none⟩ = some (.int .i64 s.lost) ∧ w.cell? ⟨gq, 4, none⟩ = some (.map (some gm)) :=
  ⟨h.cell 0, h.cell 1, h.cell 2, h.cell 3, h.cell 4⟩
set_option maxRecDepth 100000 in
theorem IqAt.look {w : World} {gq gm base : Nat} {s : Iq} (h : IqAt w gq gm base s) (p : Int) :
    (Instr.lookup 186 (.map (some gm)) (.int .i64 p) false).run Try.prog w = .ok (.bool (decide (p ∈ s.at_))) w := by
  obtain ⟨_, _, _, _, _, L, hm, hL⟩ := h
  have hz : (zeroValue 4).run Try.prog w = .ok (.bool false) w := by rfl
  have h1 := hm.is.lookup (P := Try.prog) Try.underlying186 Try.underlying3 hz p
  rw [hL p] at h1
  by_cases hp : p ∈ s.at_
  · rw [if_pos hp] at h1
    rw [decide_eq_true hp]
    exact h1
  · rw [if_neg hp] at h1
    rw [decide_eq_false hp]
    exact h1

set_option maxRecDepth 100000
section
theorem least_any (w : World) (gq gm base : Nat) (s : Iq) (h : IqAt w gq gm base s) (hs : s.Ok) (hn : s.sent.length ≤ 1000) :
    Calls Try.prog 145 #[.pointer (some ⟨gq, 0, none⟩)] w fun e w' => e = .returned (.int .i64 (leastI s)) ∧ Ext w w' := by
  have HP := hid (placesI_any w gq gm base s h hs hn)
  obtain ⟨_, _, _, _, ⟨v, hb, hown⟩, _⟩ := h
  obtain ⟨A, c, rfl, _⟩ := hown.form
  have hlt := hb.lt
  unfold leastI
  obtain ⟨lossy, stuck, sent, lost, at_⟩ := s
  simp only at *
  clear hown
  generalize sent.length = n at *
  cases at_ with
  | nil =>
    go_enter Try.func145, Try.ntmps145
    go_wp2_with (go_at_call 60; refine HP.out.mono ?_; rintro e w2 ⟨u, rfl, hu, hx2⟩; obtain ⟨Au, cu, rfl⟩ := hu.shape; obtain ⟨_, _, c2, _, _⟩ := iqCells (s := ⟨lossy, stuck, sent, lost, []⟩) (hb.ext hx2))
    go_ret
    exact ⟨rfl, hx2⟩
  | cons k ks =>
    go_enter Try.func145, Try.ntmps145
    go_wp2_with (go_at_call 60; refine HP.out.mono ?_; rintro e w2 ⟨u, rfl, ⟨Au, nu, cu, rfl, hu1, hu2, hu3⟩, hx2⟩; have hnu : ks.length + 1 = nu := hu3.1; obtain ⟨bu, ou, y, rfl, _, hy, hcy, _⟩ := hu3.int (k := 0) (by omega); have hyk : y = k := (by simpa using hy.symm); subst hyk; have hnz : ((nu : Int) == 0) = false := (by simp; omega); rw [Nat.add_zero] at hcy; have hnp : (0 : Int) < (nu : Int) := (by omega); clear hnu hu1 hu2 hu3 hy)
    go_ret
    exact ⟨rfl, hx2⟩
theorem reached_any (w : World) (gq gm base : Nat) (s : Iq) (h : IqAt w gq gm base s) (p least : Int) :
    Calls Try.prog 146 #[.pointer (some ⟨gq, 0, none⟩), .int .i64 p, .int .i64 least] w fun e w' => e = .returned (.bool (reachB s p least)) ∧ w = w' := by
  have hl := h.look p
  obtain ⟨_, _, _, _, ⟨v, hb, hown⟩, _⟩ := h
  obtain ⟨_, _, _, c3, c4⟩ := iqCells hb
  unfold reachB
  by_cases hp : p ∈ s.at_
  · have he : decide (p ∈ s.at_ ∨ (least < p ∧ p ≤ s.lost)) = true := decide_eq_true (.inl hp)
    rw [he]
    rw [decide_eq_true hp] at hl
    clear he hp hb hown
    go_enter Try.func146, Try.ntmps146
    go_wp2
    go_ret
    exact ⟨rfl, rfl⟩
  · rw [decide_eq_false hp] at hl
    by_cases h1 : least < p
    · have he : decide (p ∈ s.at_ ∨ (least < p ∧ p ≤ s.lost)) = decide (p ≤ s.lost) := by
        apply Bool.eq_iff_iff.2
        rw [decide_eq_true_iff, decide_eq_true_iff]
        exact ⟨fun h => by rcases h with h | h; exact absurd h hp; exact h.2, fun h => .inr ⟨h1, h⟩⟩
      rw [he]
      clear he hp hb hown
      go_enter Try.func146, Try.ntmps146
      go_wp2
      go_ret
      exact ⟨rfl, rfl⟩
    · have he : decide (p ∈ s.at_ ∨ (least < p ∧ p ≤ s.lost)) = false := decide_eq_false (fun h => by rcases h with h | h; exact hp h; omega)
      rw [he]
      clear he hp hb hown
      go_enter Try.func146, Try.ntmps146
      go_wp2
      go_ret
      exact ⟨rfl, rfl⟩
/-- Where it may be behind a message that came out: of the first k places. -/
def nextK (s : Iq) (m : List UInt8) : Nat → List Int
  | 0 => []
  | k + 1 => nextK s m k ++ (if s.sent[k]? = some m ∧ reachB s k (leastI s) = true then [(k : Int) + 1] else [])
def nextS (s : Iq) (m : List UInt8) : List Int := nextK s m s.sent.length
def retS (s : Iq) (m : List UInt8) : Iq := { s with at_ := nextS s m, stuck := (nextS s m).isEmpty }
theorem nextK_bnd (s : Iq) (m : List UInt8) : ∀ k, ∀ x ∈ nextK s m k, 1 ≤ x ∧ x ≤ k
  | 0, x, h => by simp [nextK] at h
  | k + 1, x, h => by
    unfold nextK at h
    rcases List.mem_append.1 h with h | h
    · have := nextK_bnd s m k x h; omega
    · split at h
      · simp at h; omega
      · simp at h
theorem nextK_asc (s : Iq) (m : List UInt8) : ∀ k, (nextK s m k).Pairwise fun x y => x < y
  | 0 => by simp [nextK]
  | k + 1 => by
    unfold nextK
    rw [List.pairwise_append]
    refine ⟨nextK_asc s m k, by split <;> simp, fun x hx y hy => ?_⟩
    have := nextK_bnd s m k x hx
    split at hy
    · simp at hy; omega
    · simp at hy
theorem nextK_len (s : Iq) (m : List UInt8) : ∀ k, (nextK s m k).length ≤ k
  | 0 => by simp [nextK]
  | k + 1 => by
    have := nextK_len s m k
    unfold nextK
    rw [List.length_append]
    split <;> simp <;> omega
theorem retS_ok {s : Iq} (h : s.Ok) (m : List UInt8) : (retS s m).Ok :=
  ⟨nextK_asc s m _, fun k hk => by have := nextK_bnd s m _ k hk; exact ⟨by omega, this.2⟩, h.lost0, h.lost1⟩
theorem AtIs.put {L : List (Int × Value)} {ks : List Int} (h : AtIs L ks) (k : Int) : AtIs (aput L k (.bool true)) (ks ++ [k]) := fun k' => by
  rw [alook_put']
  by_cases hk : k = k'
  · subst hk; simp
  · rw [if_neg hk, h k']
    have : k' ∈ ks ++ [k] ↔ k' ∈ ks := by simp; intro e; exact absurd e.symm hk
    by_cases hm : k' ∈ ks
    · rw [if_pos hm, if_pos (this.2 hm)]
    · rw [if_neg hm, if_neg (fun e => hm (this.1 e))]
set_option maxHeartbeats 1000000 in
theorem returned_any (w : World) (gq gm base : Nat) (s : Iq) (h : IqAt w gq gm base s) (hs : s.Ok) (hn : s.sent.length ≤ 1000) (mv : Value) (m : List UInt8) (hm : IsSlice repByte w (all w) mv m) :
    Calls Try.prog 111 #[.pointer (some ⟨gq, 0, none⟩), mv] w fun e w' => e = .returned (.tuple #[]) ∧ IqAt w' gq gm base (retS s m) ∧ Out (fun b => b = gq ∨ b = gm) w w' := by
  have HLS := hid (least_any w gq gm base s h hs hn)
  have hlen := nextK_len s m s.sent.length
  obtain ⟨hne, hqb, hmb, hbz, ⟨v, hb, hown⟩, L, hmap, hL⟩ := id h
  obtain ⟨A, c, rfl, hc1, hc2, hrow⟩ := hown.slice.form'
  obtain ⟨le, hle⟩ : ∃ le, le = leastI s := ⟨_, rfl⟩
  have HLE := hid hle
  rw [← hle] at HLS
  obtain ⟨n, hnn⟩ : ∃ n, n = s.sent.length := ⟨_, rfl⟩
  have HNN := hid hnn
  rw [← hnn] at hn hc1 hrow
  obtain ⟨Am, cm, rfl⟩ := hm.shape
  have hqlt := hb.lt
  have HB := hid hb
  have hcl := iqCells hb
  obtain ⟨_, _, c2, _, c4⟩ := hcl
  rw [← hnn] at c2
  clear hle hnn hb hlen
  go_enter Try.func111, Try.ntmps111
  go_wp2_with (go_at_call 145; refine HLS.out.mono ?_; rintro e w2 ⟨rfl, hx2⟩; have d2 := (Ext.cell hx2 hqlt 2).trans c2; have d4 := (Ext.cell hx2 hqlt 4).trans c4)
  go_loopw [5, 17] (fun nx i wr => ∃ k : Nat, k ≤ n ∧ i = .int .i64 k ∧ Own (repInt .i64) 3 w2.heap.size wr nx (nextK s m k) ∧ Ext w2 wr) (fun _ i _ => n - (intOf i).toNat)
  case atStart => exact ⟨0, Nat.zero_le _, rfl, own_nil _ _ _ _, Below.refl _ _⟩
  case round =>
    obtain ⟨k, hk, rfl, hnx, hxr⟩ := hrel
    have hxw := Ext.trans hx2 hxr
    by_cases hlt : k < n
    · obtain ⟨b, off, A1, m1, c1, x, rfl, hb, hx, hx1, hx2', hxr1, hcx⟩ := hrow.slice hlt
      have hsx : IsSlice repByte wr (all wr) (.slice A1 m1 c1) x := IsSlice.ext ⟨A1, m1, c1, rfl, hx1, hx2', hxr1⟩ hxw
      have hmx := hm.ext hxw
      have hxe : s.sent[k]? = some x := hx
      have HSM := hid (fun (w1 : World) (he : Ext wr w1) => same_any _ _ x m w1 (hsx.ext he) (hmx.ext he))
      have HRC := hid (fun (w1 : World) (he : Ext w w1) => reached_any w1 gq gm base s (h.ext he) k le)
      have hcx' := (Ext.cell hxw (lt_of_cell' hcx) _).trans hcx
      have hbse : w2.heap.size ≤ wr.heap.size := hxr.size
      have hnl : (nextK s m k).length ≤ k := nextK_len s m k
      have hnx1 : nextK s m (k + 1) = nextK s m k ++ (if s.sent[k]? = some m ∧ reachB s k (leastI s) = true then [(k : Int) + 1] else []) := rfl
      rw [hxe, ← HLE.out] at hnx1
      obtain ⟨rb, hrb⟩ : ∃ rb, rb = reachB s k le := ⟨_, rfl⟩
      rw [← hrb] at HRC hnx1
      clear hx hx1 hx2' hxr1 hsx hmx hcx hrb hxe
      by_cases hxm : x = m
      · rw [decide_eq_true hxm] at HSM
        cases rb with
        | true =>
          rw [if_pos ⟨by rw [hxm], rfl⟩] at hnx1
          have HNX := hid hnx1
          clear hnx1 hxm
          go_wp2_with (first
            | (go_at_call 135; refine (HSM.out _ (Below.refl _ _)).mono ?_; rintro e w3 ⟨rfl, rfl⟩)
            | (go_at_call 146; refine (HRC.out _ hxw).mono ?_; rintro e w3 ⟨rfl, rfl⟩)
            | (at_builtin; refine wpl_app1 (r := repInt .i64) (base := w2.heap.size) (x := (k : Int) + 1) (cs := #[.int .i64 ((k : Int) + 1)]) _ _ rfl rfl Try.underlying26 info_int (by decide) hnx rfl rfl rfl ⟨rfl, wf_small (by omega) (by omega)⟩ (by omega) (by simp only [maxLen]; omega) hbse ?_; intro v3 w3 hown3 hg3))
          refine ⟨⟨k + 1, by omega, by go_num, by rw [HNX.out]; exact hown3, Below.grown hxr hg3 hxr.size (fun b hb => (hnx.lt b hb).1)⟩, ?_⟩
          simp [intOf]
          omega
        | false =>
          rw [if_neg (fun h => by cases h.2), List.append_nil] at hnx1
          have HNX := hid hnx1
          clear hnx1 hxm
          go_wp2_with (first
            | (go_at_call 135; refine (HSM.out _ (Below.refl _ _)).mono ?_; rintro e w3 ⟨rfl, rfl⟩)
            | (go_at_call 146; refine (HRC.out _ hxw).mono ?_; rintro e w3 ⟨rfl, rfl⟩))
          refine ⟨⟨k + 1, by omega, by go_num, by rw [HNX.out]; exact hnx, hxr⟩, ?_⟩
          simp [intOf]
          omega
      · rw [decide_eq_false hxm] at HSM
        rw [if_neg (fun h => hxm (by injection h.1)), List.append_nil] at hnx1
        have HNX := hid hnx1
        clear hnx1 hxm HRC
        go_wp2_with (first
          | (go_at_call 135; refine (HSM.out _ (Below.refl _ _)).mono ?_; rintro e w3 ⟨rfl, rfl⟩))
        refine ⟨⟨k + 1, by omega, by go_num, by rw [HNX.out]; exact hnx, hxr⟩, ?_⟩
        simp [intOf]
        omega
    · obtain rfl : k = n := by omega
      have hNX : nextK s m k = nextS s m := by unfold nextS; rw [HNN.out]
      rw [hNX] at hnx
      have hNl : (nextS s m).length ≤ k := by rw [← hNX]; exact nextK_len s m k
      have hbn : ∀ x ∈ nextS s m, 1 ≤ x ∧ x ≤ (k : Int) := by rw [← hNX]; exact nextK_bnd s m k
      have HBN := hid hbn
      obtain ⟨A5, c5, rfl, _, hc5, _⟩ := hnx.form
      obtain ⟨NX, hNXe⟩ : ∃ NX, NX = nextS s m := ⟨_, rfl⟩
      rw [← hNXe] at hnx hNl HBN ⊢
      have HNE := hid hNXe
      obtain ⟨q, hq⟩ : ∃ q, q = NX.length := ⟨_, rfl⟩
      have HQ := hid hq
      rw [← hq] at hnx hNl ⊢
      clear hNX hbn hNXe hq
      have hbr := HB.out.ext hxw
      have hdl := iqCells hbr
      obtain ⟨_, e1, _, _, e4⟩ := hdl
      have hmr := hmap.ext hxw
      have hgmlt : gm < w2.heap.size := Nat.lt_of_lt_of_le hmap.lt hx2.size
      clear hbr
      go_wp2_with (first
        | (refine wpl_clear (K := keyInt .i64) _ rfl rfl Try.underlying186 hmr rfl ?_; intro w3 hm3 hg3))
      go_loopw [43] (fun i wx => ∃ j : Nat, j ≤ q ∧ i = .int .i64 j ∧ (∃ L', MapSt (keyInt .i64) wx gm L' ∧ AtIs L' (NX.take j)) ∧ Only gm wr wx) (fun i _ => q - (intOf i).toNat)
      case atStart => exact ⟨0, Nat.zero_le _, rfl, ⟨[], hm3, fun k' => by simp [alook]⟩, hg3⟩
      case round =>
        obtain ⟨j, hj, rfl, ⟨L', hmx, hLx⟩, hox⟩ := hrel
        have g4 := (hox.cell (Nat.lt_of_lt_of_le hqlt hxw.size) hne 4).trans e4
        by_cases hjl : j < q
        · obtain ⟨A6, c6, hv6, _, _, hr6⟩ := (hnx.out (X := fun b => b = gm) (Out.of_only hox rfl) (fun b hb => by omega)).form
          have hjq : j < NX.length := by rw [← HQ.out]; exact hjl
          injection hv6 with ea eb ec
          subst ea
          obtain ⟨b, off, y, rfl, _, hy, hcy, _⟩ := hr6.int hjq
          have hyb := HBN.out y (List.mem_of_getElem? hy)
          have htk := take_succ_of hy
          have HTK := hid htk
          clear hy htk hr6 eb ec
          go_wp2_with (first
            | (refine wpl_putSt (K := keyInt .i64) (k := y) _ _ _ rfl rfl Try.underlying186 Try.underlying3 hmx rfl rfl rfl rfl ?_; intro w4 hm4 hg4))
          refine ⟨⟨j + 1, by omega, by go_num, ⟨_, hm4, by rw [HTK.out]; exact hLx.put y⟩, hox.trans hg4⟩, ?_⟩
          simp [intOf]
          omega
        · obtain rfl : j = q := by omega
          have htl : NX.take j = NX := List.take_of_length_le (by rw [HQ.out]; exact Nat.le_refl _)
          rw [htl] at hLx
          have hbx := (HB.out.ext hxw).grown hox (fun e => hne (by injection e))
          have g1 : _ := hbx.cell 1
          have k1 := hbx.frozen 1
          clear htl
          go_wp2
          go_end0
          have hbz2 : ((j : Int) == 0) = (nextS s m).isEmpty := by
            rw [← HNE.out]
            have h1 := HQ.out
            cases NX with
            | nil => subst h1; rfl
            | cons y ys => simp at h1; simp; omega
          have hset := hbx.set_ 1 (.bool ((j : Int) == 0))
          have hst2 : (retS s m).stuck = ((j : Int) == 0) := hbz2.symm
          have hset2 : Blk (wr.setCell ⟨gq, 1, none⟩ (.bool ((j : Int) == 0))) gq 188 #[.bool (retS s m).lossy, .bool (retS s m).stuck, .slice A s.sent.length c, .int .i64 (retS s m).lost, .map (some gm)] := by rw [hst2]; exact hset
          have hos : Only gq wr (wr.setCell ⟨gq, 1, none⟩ (.bool ((j : Int) == 0))) := (Only.refl _ _).set_ _ _
          have hown5 := ((hown.ext hxw).out (X := fun b => b = gm) (Out.of_only hox rfl) (fun b hb => by omega)).out (X := fun b => b = gq) (Out.of_only hos rfl) (fun b hb => by omega)
          rw [HNE.out] at hLx
          refine ⟨rfl, ⟨hne, hqb, hmb, Nat.le_trans hbz (Nat.le_trans hxw.size (Nat.le_trans hox.size hos.size)), ⟨_, hset2, hown5⟩, L', hmx.kept hos (fun e => hne (by injection e with e; exact e.symm)), hLx⟩, ?_⟩
          exact ((Out.of_ext hxw).trans (Out.of_only hox (.inr rfl))).trans (Out.of_only hos (.inl rfl))
end
end Go.Proofs.Ytjchobncmogcpaa
