/- The walks of ideal's New and Accepts. -/
import Derived.Test.YtjchobncmogcpaaIdeal3
namespace Go.Proofs.Ytjchobncmogcpaa
open Go.RowKit

section
variable {κ : Type} [DecidableEq κ] {P : Program} {K : Key κ} {w : World} {b : Nat} {l : List (κ × Value)}
variable {ops : Array Oper} {rest : List Oper} {o : Oper} {a : Act} {Q : Exit → Act → World → Prop}
/-- A map literal's entry. -/
theorem wpl_insSt {t kt e : TypeId} {val key : Value} {k : κ} (m x v : Operand) (hgd : o.guard = none) (hop : o.op = Op.insert t m x v) (ht : P.underlying t = some (.map kt e)) (hk : P.underlying kt = some K.d)
    (h : MapSt K w b l) (hm : a.eval m = .map (some b)) (hx : a.eval x = key) (hkey : key = K.kv k) (hv : a.eval v = val)
    (hK : ∀ w', MapSt K w' b (aput l k val) → w.grownBy w' (some b) → wpList P ops Q rest (a.put o.dst undef) w') : wpList P ops Q (o :: rest) a w := by
  refine wpList_plain hgd fun K' hK' => ?_
  subst hkey
  obtain ⟨w', hrun, r1, r2⟩ := h.update (P := P) ht hk k val
  unfold Oper.wp
  simp [execOp, hop, hm, hx, hv, hrun, Result.andThen]
  exact hK' _ _ (hK w' r1 r2)
end
/-- How many events are taken, and whether that is all. -/
def accI : Iq → List Ev → Nat → Nat × Bool
  | _, [], i => (i, true)
  | s, e :: es, i => if (stepS s e.kind e.data).stuck = true then (i, false) else accI (stepS s e.kind e.data) es (i + 1)
def iq0 (lossy : Bool) : Iq := ⟨lossy, false, [], 0, [0]⟩
theorem iq0_ok (lossy : Bool) : (iq0 lossy).Ok := ⟨by simp [iq0], fun k hk => by simp [iq0] at hk; subst hk; simp [iq0], by simp [iq0], by simp [iq0]⟩

set_option maxRecDepth 100000
section
theorem newI_any (lossy : Bool) (w : World) :
    Calls Try.prog 56 #[.bool lossy] w fun e w' => ∃ gq gm base, e = .returned (.pointer (some ⟨gq, 0, none⟩)) ∧ IqAt w' gq gm base (iq0 lossy) ∧ Ext w w' ∧ w.heap.size ≤ gq ∧ w.heap.size ≤ gm := by
  have hmm := @run_makeMap Try.prog
  have hmd := mapSt_made (keyInt .i64) w
  go_enter Try.func56, Try.ntmps56
  go_wp2_with (first
    | (refine wpl_insSt (K := keyInt .i64) (k := 0) _ _ _ rfl rfl Try.underlying186 Try.underlying3 hmd rfl rfl rfl rfl ?_; intro w2 hm2 hg2))
  go_ret
  have hm3 : MapSt (keyInt .i64) w2 w.heap.size [(0, .bool true)] := hm2
  have hx2 : Ext w w2 := Below.grown (ext_alloc _ _) hg2 (by simp) (fun b hb => by injection hb with hb; omega)
  have hsz2 : w.heap.size + 1 ≤ w2.heap.size := by have := hg2.size; simpa using this
  have hx3 := ext_alloc w2 (.cells #[.bool lossy, .bool false, .slice none 0 0, .int .i64 0, .map (some w.heap.size)] 188)
  exact ⟨w2.heap.size, w.heap.size, w2.heap.size + 1, rfl, ⟨by omega, by omega, by omega, by simp, ⟨.slice none 0 0, Blk.new w2 _ _, own_nil _ _ _ _⟩, [(0, .bool true)], hm3.ext hx3, fun k => by
    by_cases hk : k = 0
    · subst hk; simp [iq0, alook]
    · simp [iq0, alook, hk]⟩, Ext.trans hx2 hx3, by omega, Nat.le_refl _⟩
theorem accI_fst : ∀ (s : Iq) (es : List Ev) (i : Nat), (accI s es i).1 ≤ i + es.length
  | s, [], i => Nat.le_refl _
  | s, e :: es, i => by
    unfold accI
    split
    · simp
    · have := accI_fst (stepS s e.kind e.data) es (i + 1)
      simp only [List.length_cons]
      omega
set_option maxHeartbeats 1000000 in
theorem accepts_any (v : Value) (evs : List Ev) (lossy : Bool) (W : World) (o1 : IsSlice repEv W (all W) v evs) (hl : evs.length ≤ 800) (hd : ∀ x ∈ evs, x.data.length ≤ 16777216) :
    Calls Try.prog 61 #[v, .bool lossy] W fun e w' => e = .returned (.tuple #[.int .i64 ((accI (iq0 lossy) evs 0).1 : Int), .bool (accI (iq0 lossy) evs 0).2]) ∧ Ext W w' := by
  obtain ⟨A, n, c, rfl, hnc, hcm, hrow⟩ := o1
  have hn := hrow.1
  have HN := hid hn
  rw [hn] at hl
  have HNW := hid (newI_any lossy W)
  obtain ⟨R, hR⟩ : ∃ R, R = accI (iq0 lossy) evs 0 := ⟨_, rfl⟩
  rw [← hR]
  have HR := hid hR
  have HD := hid hd
  clear hn hR hd
  go_enter Try.func61, Try.ntmps61
  go_wp2_with (go_at_call 56; refine HNW.out.mono ?_; rintro e w1 ⟨gq, gm, base, rfl, hq1, hx1, hgq, hgm⟩)
  go_loopw [13] (fun i wr => ∃ (k : Nat) (s : Iq), k ≤ n ∧ i = .int .i64 k ∧ IqAt wr gq gm base s ∧ s.Ok ∧ s.sent.length ≤ k ∧ accI s (evs.drop k) k = R ∧ Ext W wr) (fun i _ => n - (intOf i).toNat)
  case atStart => exact ⟨0, iq0 lossy, Nat.zero_le _, rfl, hq1, iq0_ok lossy, by simp [iq0], by rw [HR.out]; rfl, hx1⟩
  case round =>
    obtain ⟨k, s, hk, rfl, hq, hok, hsl, hacc, hxr⟩ := hrel
    by_cases hlt : k < n
    · obtain ⟨b, off, x, A', m, c', rfl, hx, hs1, hm1, e0, e1, e2, e3⟩ := hrow.evE hxr hlt
      have hdx : evs.drop k = x :: evs.drop (k + 1) := by rw [List.drop_eq_getElem_cons (by rw [HN.out]; exact hlt)]; congr 1; exact (List.getElem?_eq_some_iff.1 hx).2
      rw [hdx] at hacc
      unfold accI at hacc
      have hxd := HD.out x (List.mem_of_getElem? hx)
      have hqlt : gq < wr.heap.size := Nat.lt_of_lt_of_le hq.q hq.sz
      have hsv := hs1.ext hxr
      have HSTP := hid (fun (w2 : World) (he : Ext wr w2) => step_any w2 gq gm base s (hq.ext he) hok (by omega) x.step x.kind x.place _ x.data (hsv.ext he) hxd)
      have hok2 := stepS_ok hok x.kind x.data
      have hln2 := stepS_len s x.kind x.data
      obtain ⟨S2, hS2⟩ : ∃ S2, S2 = stepS s x.kind x.data := ⟨_, rfl⟩
      rw [← hS2] at hacc HSTP hok2 hln2
      have HACC := hid hacc
      clear hS2 hacc hdx hx hxd hm1
      generalize x.step = xs at *
      generalize x.kind = xk at *
      generalize x.place = xp at *
      cases hst : S2.stuck with
      | true =>
        rw [hst] at HSTP
        have HX := hid (ext_alloc wr (.cells #[.int .i64 xs, .int .i64 xk, .int .i64 xp, .slice A' m c'] 119))
        rw [hst, if_pos rfl] at HACC
        go_wp2_with (first
          | (go_at_call 58; refine (HSTP.out _ HX.out).mono ?_; rintro e w2 ⟨rfl, hq2, hlow2⟩))
        go_ret2
        rw [← HACC.out]
        have hx2 : Ext W w2 := ⟨hlow2.os.trans (hxr.os), hlow2.tape.trans hxr.tape, hlow2.output.trans hxr.output, Nat.le_trans hxr.size (Nat.le_trans HX.out.size hlow2.size), fun b hb => (hlow2.block b (by omega)).trans ((HX.out.block b (Nat.lt_of_lt_of_le hb hxr.size)).trans (hxr.block b hb))⟩
        exact ⟨rfl, hx2⟩
      | false =>
        rw [hst] at HSTP
        have HX := hid (ext_alloc wr (.cells #[.int .i64 xs, .int .i64 xk, .int .i64 xp, .slice A' m c'] 119))
        rw [hst, if_neg (by simp)] at HACC
        go_wp2_with (first
          | (go_at_call 58; refine (HSTP.out _ HX.out).mono ?_; rintro e w2 ⟨rfl, hq2, hlow2⟩))
        have hx2 : Ext W w2 := ⟨hlow2.os.trans (hxr.os), hlow2.tape.trans hxr.tape, hlow2.output.trans hxr.output, Nat.le_trans hxr.size (Nat.le_trans HX.out.size hlow2.size), fun b hb => (hlow2.block b (by omega)).trans ((HX.out.block b (Nat.lt_of_lt_of_le hb hxr.size)).trans (hxr.block b hb))⟩
        refine ⟨⟨k + 1, S2, by omega, by go_num, hq2, hok2, by omega, HACC.out, hx2⟩, ?_⟩
        simp [intOf]
        omega
    · obtain rfl : k = n := by omega
      have hdn : evs.drop k = [] := List.drop_of_length_le (by rw [HN.out]; exact Nat.le_refl _)
      rw [hdn] at hacc
      have hR2 : R = (k, true) := hacc.symm
      have HR2 := hid hR2
      clear hacc hR2 hdn
      go_wp2
      go_ret2
      rw [HR2.out]
      exact ⟨rfl, hxr⟩
end
end Go.Proofs.Ytjchobncmogcpaa
