/- The pusher: there. -/
import Derived.Test.YtimlbebockfioaaPusher7
namespace Go.Proofs.Ytimlbebockfioaa
open Go.RowKit

/-- 's[k:len(s):len(s)]'. -/
theorem cut_full {α : Type} {P : Program} {t e bytes : Nat} {r : Rep α} {w0 : World} {S : Nat → Prop} {A : Option Addr} {n c k : Nat} {xs : List α} (ht : P.underlying t = some (.slice e)) (hi : ElemInfo P e r.size bytes)
    (h : IsSlice r w0 S (.slice A n c) xs) (hk : k ≤ n) :
    ∃ A', (∀ w, (Instr.sliceAt t (.slice A n c) (some (.int .i64 (k : Int))) (some (.int .i64 (n : Int))) (some (.int .i64 (n : Int)))).run P w = .ok (.slice A' (n - k) (n - k)) w) ∧ IsSlice r w0 S (.slice A' (n - k) (n - k)) (xs.drop k) := by
  obtain ⟨A', n', c', hv, h1, h2, h3⟩ := h
  injection hv with e1 e2 e3
  subst e1 e2 e3
  have h' : IsSlice r w0 S (.slice A n n) xs := ⟨_, _, _, rfl, Nat.le_refl _, by omega, h3⟩
  refine ⟨_, fun w => ?_, h'.cut hk⟩
  have he : P.elem t = e := by simp [Program.elem, ht]
  obtain ⟨i, z, hi1, hz, hsize, hby, hzs⟩ := hi.ex
  have hs : (sizeOf (P.elem t)).run P w = .ok r.size w := by rw [he]; simp [sizeOf, typeInfo, hi1, hsize]
  rw [run_sliceAt_slice w t _ _ _ _ (by rw [he]; exact ht), run_slice_lhm w t A n c (by rw [he]; exact ht) .i64 .i64 .i64 k n n (by omega) (by omega) (by omega) (by omega), hs]
  simp [Result.andThen, sliced]
/-- Base turns, and what is left with it. -/
theorem PsAt.there {F : Nat → Prop} {w : World} {gp gt b : Nat} {c : Cfg} {s : Ps} (h : PsAt F w gp gt b c s) {A : Option Addr} {n : Nat} (q : Nat) (hr : IsSlice (repSlice repByte) w (fun k => F k ∧ k < w.heap.size) (.slice A n n) (s.acc.drop q)) :
    PsAt F ((w.setCell ⟨gp, 7, none⟩ (.slice A n n)).setCell ⟨gp, 8, none⟩ (.int .i64 (q : Int))) gp gt b c ⟨s.acc, q, s.next, s.T⟩ ∧ Only gp w ((w.setCell ⟨gp, 7, none⟩ (.slice A n n)).setCell ⟨gp, 8, none⟩ (.int .i64 (q : Int))) := by
  obtain ⟨lv, h1, h2⟩ := h.is
  have ho : Only gp w ((w.setCell ⟨gp, 7, none⟩ (.slice A n n)).setCell ⟨gp, 8, none⟩ (.int .i64 (q : Int))) := ((Only.refl _ _).set_ _ _).set_ _ _
  refine ⟨⟨h.ne1, h.ne2, fun k hk => ⟨(h.fp k hk).1, Nat.lt_of_lt_of_le (h.fp k hk).2 ho.size⟩, h.tm.kept ho (fun e => h.ne1 (by injection e with e; exact e.symm)) (fun e => h.ne2 (by injection e with e; exact e.symm)), .slice A n n, (h1.set_ 7 _).set_ 8 _, ?_⟩, ho⟩
  exact RowF.frame (.inr ⟨A, n, rfl, hr⟩) ho.size fun k hk hF => ho.block k hk (fun e => (h.fp k hF).1.1 (by injection e))
set_option maxRecDepth 100000
section
set_option maxHeartbeats 2000000 in
theorem psThere_any (F : Nat → Prop) (w : World) (gp gt b : Nat) (c : Cfg) (s : Ps) (W R : Nat) (h : PsAt F w gp gt b c s) (ok : PsOk W R c.b s) (hl : s.acc.length ≤ 1000000) (q : Nat) (hq1 : s.base ≤ q) (hq2 : q ≤ s.next) :
    Calls Try.prog 46 #[.pointer (some ⟨gp, 0, none⟩), .int .i64 (q : Int)] w fun e w' => e = .returned (.tuple #[]) ∧ PsAt F w' gp gt b c (thereS s q) ∧ Out (fun k => k = gp ∨ k = b) w w' := by
  obtain ⟨K, hK⟩ : ∃ K, K = q - s.base := ⟨_, rfl⟩
  have HK := hid hK
  have HH := hid h
  have HOK := hid ok
  have hnl := ok.nl
  have hq : q = s.base + K := by omega
  have hqm : q ≤ 1000000 := by omega
  have HQ := hid hq
  have HL := hid hl
  have hTS : thereS s q = ⟨s.acc, q, s.next, if tlook (clearsT s.T s.base K) q = none ∧ q < s.next then tset (clearsT s.T s.base K) ⟨(q : Int), 1, 1⟩ else clearsT s.T s.base K⟩ := by rw [hK]; rfl
  have HTS := hid hTS
  obtain ⟨lv, hbk, _⟩ := h.is
  obtain ⟨_, _, _, _, c8, _, _, _, _, _⟩ := psCellsAt hbk
  clear h ok hK hbk hTS hl hq
  go_enter Try.func46, Try.ntmps46
  go_wp2
  go_loopw [4] (fun i wr => ∃ k : Nat, k ≤ K ∧ i = .int .i64 ((s.base + k : Nat) : Int) ∧ PsAt F wr gp gt b c ⟨s.acc, s.base, s.next, clearsT s.T s.base k⟩ ∧ Only b w wr) (fun i _ => q - (intOf i).toNat)
  case atStart => exact ⟨0, Nat.zero_le _, rfl, HH.out, Only.refl _ _⟩
  case round =>
    obtain ⟨k, hk, rfl, hps, hor⟩ := hrel
    obtain ⟨lv, hbk, hrow⟩ := hps.is
    obtain ⟨c1, c2, c5, c7, c8, c9, c10, f7, f8, f9⟩ := psCellsAt hbk
    have htok := clearsT_ok HOK.out.tm s.base k
    by_cases hlt : k < K
    · have hd : decide (((s.base + k : Nat) : Int) < (q : Int)) = true := decide_eq_true (by have := HQ.out; omega)
      have HCL := hid (tmClear_any wr gt b c.b _ hps.tm htok.asc ((s.base + k : Nat) : Int))
      have HPS := hid hps
      clear hps hbk hrow htok c7
      obtain ⟨i, hi⟩ : ∃ i : Int, i = ((s.base + k : Nat) : Int) := ⟨_, rfl⟩
      rw [← hi] at hd HCL ⊢
      have HI := hid hi
      have hib : 0 ≤ i ∧ i < 1000000 := by have := HQ.out; omega
      clear hi
      go_wp2_with (go_at_call 47; refine HCL.out.mono ?_; rintro e w2 ⟨rfl, htm2, ho2⟩)
      go_roundw
      case rel =>
        refine ⟨k + 1, by omega, by have := HI.out; push_cast; rw [this]; go_num, ?_, hor.trans ho2⟩
        have h9 := HPS.out.timer ho2 htm2
        rw [HI.out] at h9
        exact h9
      case measure => have := HI.out; have := HQ.out; simp [intOf]; omega
    · obtain rfl : k = K := by omega
      have hq := HQ.out
      have hd : decide (((s.base + k : Nat) : Int) < (q : Int)) = false := decide_eq_false (by omega)
      obtain ⟨A, cc, rfl, hcc⟩ := hrow.len
      have hlen : (s.acc.drop s.base).length = s.acc.length - s.base := List.length_drop
      obtain ⟨n, hn⟩ : ∃ n, n = (s.acc.drop s.base).length := ⟨_, rfl⟩
      have hkn : k ≤ n := by omega
      have hsl := hrow.slice
      have hnm : n ≤ 1000000 := by have := HL.out; omega
      rw [← hn] at hsl c7
      obtain ⟨A', hrun, hcut⟩ := cut_full (P := Try.prog) (t := 83) Try.underlying83 info_bytes hsl hkn
      rw [List.drop_drop, show s.base + k = q from hq.symm] at hcut
      obtain ⟨I, hI⟩ : ∃ I : Int, I = ((s.base + k : Nat) : Int) := ⟨_, rfl⟩
      rw [← hI] at hd ⊢
      have HPS := hid hps
      have HCUT := hid hcut
      obtain ⟨nk, hnk⟩ : ∃ nk, nk = n - k := ⟨_, rfl⟩
      rw [← hnk, show (k : Int) = (q : Int) - (s.base : Int) from by omega] at hrun
      rw [← hnk] at HCUT
      have hgl := hps.ltp
      have HTOK := hid htok
      clear hps hbk hrow hsl hcut hn hlen hq hcc hI hnk htok
      go_upto_region 5 with (fail)

      refine still_tailT 19 (by kernel_rfl) (by kernel_rfl) ?_
      intro w2 hw2
      have hx2 : Ext wr w2 := by rw [hw2]; exact ext_drewN _ 1
      clear hw2
      have d7 := (hx2.cell hgl 7).trans c7
      clear c1 c2 c5 c7 c8 c9 c10 f7 f8 f9
      simp only [List.take_succ_cons, List.take_zero, List.drop_succ_cons, List.drop_zero]
      repeat still_step
      refine wpStill_nil ?_
      have hp2 := HPS.out.ext hx2
      obtain ⟨lv2, hbk2, _⟩ := hp2.is
      obtain ⟨_, _, _, _, _, _, _, g7, g8, g9⟩ := psCellsAt hbk2
      have HTH := hid (hp2.there q (HCUT.out.keep fun k hk => ⟨⟨hk.1, Nat.lt_of_lt_of_le hk.2 hx2.size⟩, fun o => hx2.cell hk.2 o⟩))
      have HX2 := hid hx2
      clear hp2 hbk2 hx2 hrun
      go_upto_region 7 with (fail)
      obtain ⟨hp3, ho3⟩ := HTH.out
      generalize (w2.setCell ⟨gp, 7, none⟩ (.slice A' nk nk)).setCell ⟨gp, 8, none⟩ (.int .i64 (q : Int)) = w3 at *
      clear HTH d7 g7 g8 g9
      have hout3 : Out (fun k => k = gp ∨ k = b) w w3 := ((Out.of_only hor (.inr rfl)).then HX2.out).trans (Out.of_only ho3 (.inl rfl))
      have HLF := hid (tmLeft_any w3 gt b c.b _ hp3.tm (q : Int))
      have HST := hid fun w4 (he : Ext w3 w4) => tmSet_any w4 gt b c.b _ (hp3.tm.ext he) HTOK.out.asc (q : Int)
      obtain ⟨lv3, hbk3, _⟩ := hp3.is
      obtain ⟨_, _, _, _, _, e9, e10, _, _, _⟩ := psCellsAt hbk3
      have hpl := hp3.ltp
      have HP3 := hid hp3
      have HO3 := hid hout3
      have hts := HTS.out
      obtain ⟨T, hT⟩ : ∃ T, T = clearsT s.T s.base k := ⟨_, rfl⟩
      rw [← hT] at hts HLF HST HTOK HP3
      clear hp3 hbk3 hout3 ho3 hor HX2 HH HCUT HPS hT
      have hl0 : tlook T q = none ∨ ∃ t, tlook T q = some t ∧ 1 ≤ t.left := by
        cases h0 : tlook T q with
        | none => exact .inl rfl
        | some t => exact .inr ⟨t, rfl, (HTOK.out.ok t (tlook_mem h0).1).2.1⟩
      by_cases hc : tlook T q = none ∧ q < s.next
      · rw [if_pos hc] at hts
        rw [hc.1] at HLF
        simp only [Option.map_none, Option.getD_none] at HLF
        have hd2 : decide (q < s.next) = true := decide_eq_true hc.2
        have HTS2 := hid hts
        clear hc hts hl0
        go_wp2_with (first
          | (go_at_call 75; refine HLF.out.mono ?_; rintro e w4 ⟨rfl, hx4⟩; have m9 := (hx4.cell hpl 9).trans e9; have m10 := (hx4.cell hpl 10).trans e10)
          | (go_at_call 69; refine (HST.out _ hx4).mono ?_; rintro e w5 ⟨rfl, htm5, ho5⟩))
        go_end0
        refine ⟨rfl, ?_, (HO3.out.then hx4).trans (Out.of_only ho5 (.inr rfl))⟩
        rw [HTS2.out]
        exact (HP3.out.ext hx4).timer ho5 htm5
      · rw [if_neg hc] at hts
        rcases hl0 with h0 | ⟨t, h0, ht1⟩
        · rw [h0] at HLF
          simp only [Option.map_none, Option.getD_none] at HLF
          have hd2 : decide (q < s.next) = false := decide_eq_false (fun h => hc ⟨h0, h⟩)
          have HTS2 := hid hts
          clear hc hts h0
          go_wp2_with (first
            | (go_at_call 75; refine HLF.out.mono ?_; rintro e w4 ⟨rfl, hx4⟩; have m9 := (hx4.cell hpl 9).trans e9; have m10 := (hx4.cell hpl 10).trans e10))
          go_end0
          refine ⟨rfl, ?_, HO3.out.then hx4⟩
          rw [HTS2.out]
          exact HP3.out.ext hx4
        · rw [h0] at HLF
          simp only [Option.map_some, Option.getD_some] at HLF
          obtain ⟨tl, htl⟩ : ∃ tl, tl = t.left := ⟨_, rfl⟩
          rw [← htl] at HLF ht1
          have hd1 : (tl == 0) = false := by simp; omega
          have HTS2 := hid hts
          clear hc hts h0 htl ht1
          go_wp2_with (first
            | (go_at_call 75; refine HLF.out.mono ?_; rintro e w4 ⟨rfl, hx4⟩; have m9 := (hx4.cell hpl 9).trans e9; have m10 := (hx4.cell hpl 10).trans e10))
          go_end0
          refine ⟨rfl, ?_, HO3.out.then hx4⟩
          rw [HTS2.out]
          exact HP3.out.ext hx4
end
end Go.Proofs.Ytimlbebockfioaa
