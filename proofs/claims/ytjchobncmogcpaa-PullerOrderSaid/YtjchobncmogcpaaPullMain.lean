/- The walk of PullerOrder's great loop. -/
import Derived.Deep.DeepCutAuto
import Derived.Test.YtjchobncmogcpaaPullOrder
namespace Go.Proofs.Ytjchobncmogcpaa
open Go.RowKit

theorem enterF_ret : ∀ (n : Nat) (s : Pu), (enterF n s).ret = s.ret
  | 0, s => rfl
  | n + 1, s => by
    unfold enterF
    cases hlook s.ah s.ent with
    | none => rfl
    | some x => exact enterF_ret n ⟨s.ent + 1, s.ret, s.q ++ [x], hdel s.ah s.ent⟩
theorem enterS_ret (room : Nat) (s : Pu) : (enterS room s).ret = s.ret := enterF_ret _ _
/-- A row grew, or moved. -/
theorem PuAt.move {X Y : Nat → Prop} {w w' : World} {gp gq gm : Nat} {c : Cfg} {s : Pu} (h : PuAt X w gp gq gm c s) {row : Option Nat} (hg : w.grownBy w' row) (hr : ∀ b, row = some b → X b ∧ ¬ own3 gp gq gm b)
    (hs : ∀ b, own3 gp gq gm b → Y b) (hlt : ∀ b, Y b → b < w'.heap.size) (hY : ∀ b, b < w.heap.size → Y b → X b) : PuAt Y w' gp gq gm c s := by
  have hne : ∀ b, own3 gp gq gm b → some b ≠ row := fun b hb e => (hr b e.symm).2 hb
  have hk : ∀ {v : Value} {xs : List UInt8}, IsSlice repByte w (outOf X w) v xs → IsSlice repByte w' (outOf Y w') v xs := fun hv =>
    hv.keep fun b hb => ⟨⟨Nat.lt_of_lt_of_le hb.1 hg.size, fun hy => hb.2 (hY b hb.1 hy)⟩, fun _ => World.cell?_of_block (hg.block b hb.1 (fun e => hb.2 (hr b e.symm).1))⟩
  obtain ⟨q1, q2, q3, q4, first, vs, q5, q6⟩ := h.q
  obtain ⟨L, h1, h2⟩ := h.map
  exact ⟨h.pq, h.pm, h.qm, hs, hlt, h.blk.grown hg (hne _ (.inl rfl)), ⟨hs _ (.inr (.inl rfl)), q2, q3, q4, first, vs, q5.grown hg (hne _ (.inr (.inl rfl))), ⟨q6.len, q6.low, q6.q16, fun i hi => (q6.at_ i hi).imp fun v hv => ⟨hv.1, hk hv.2⟩, q6.short⟩⟩, L, h1.kept hg (hne _ (.inr (.inr rfl))), ⟨h2.nodup, fun k => by
    have := h2.at_ k
    revert this
    cases alook L k <;> cases hlook s.ah k <;> intro h1
    · exact h1
    · exact h1
    · exact h1
    · exact ⟨hk h1.1, h1.2⟩⟩⟩
section
variable {α : Type} {P : Program} {r : Rep α} {w : World} {ops : Array Oper} {rest : List Oper} {o : Oper} {a : Act} {Q : Exit → Act → World → Prop}
/-- 'append(out, x)': and where the row lies. -/
theorem wpl_app1m {base g : Nat} {t e : TypeId} {bytes : Nat} {v : Value} {xs : List α} {x : α} {cs : Array Value} (s y : Operand) (hgd : o.guard = none)
    (ho : o.op = .call { callee := .builtin .append, args := #[s, y], argTypes := #[t, t] }) (ht : P.underlying t = some (.slice e)) (hi : ElemInfo P e r.size bytes) (hsz : 0 < r.size)
    (hown : Own r e base w v xs) (hs : a.eval s = v) (hx : a.eval y = .slice (some ⟨g, 0, none⟩) 1 1) (hg : g = w.heap.size) (hu : r.holds w (el base w v) cs.toList x)
    (hbytes : (xs.length + 1) * bytes ≤ 140737488355328) (h63 : xs.length + 1 ≤ maxLen) (hbase : base ≤ w.heap.size)
    (h : ∀ v' w', Own r e base w' v' (xs ++ [x]) → w.grownBy w' v.ownBlock → (v'.ownBlock = v.ownBlock ∨ v'.ownBlock = some (w.heap.size + 1)) → wpList P ops Q rest (a.put o.dst v') w') : wpList P ops Q (o :: rest) a (w.alloc (.cells cs e)) := by
  subst hg
  refine wpl_app s y hgd ho ht hi hsz (hown.ext (ext_alloc w _)) (isSlice_one hu fun k hk => (hown.lt k hk).2) hs hx hbytes h63 (by simp; omega) fun v' w' h1 h2 h3 => h v' w' h1 ?_ (by simpa using h3)
  refine ⟨h2.os, h2.tape, h2.output, Nat.le_trans (by simp) h2.size, fun k hk hne => (h2.block k (by simp; omega) hne).trans (Below.heap_alloc w _ k hk)⟩
end
/-- Apart from its own blocks, and from the row's. -/
def ordX (gp gq gm : Nat) (vo : Value) : Nat → Prop := fun b => own3 gp gq gm b ∨ vo.ownBlock = some b
/-- Behind k of the places: what was handed out, and what it is at. -/
structure OrdAt (w0 wr : World) (gp gq gm : Nat) (c : Cfg) (ls : List (List UInt8)) (k : Nat) (vo : Value) (outs : List (List UInt8)) (s : Pu) : Prop where
  own : Own (repSlice repByte) 33 w0.heap.size wr vo outs
  pu : PuAt (ordX gp gq gm vo) wr gp gq gm c s
  came : Came ls c.room.toNat outs s
  ret : s.ret ≤ k
  out : Out (own3 gp gq gm) w0 wr

theorem ordX_nil {w : World} {gp gq gm : Nat} {c : Cfg} {s : Pu} (h : PuAt (own3 gp gq gm) w gp gq gm c s) : PuAt (ordX gp gq gm (.slice none 0 0)) w gp gq gm c s := by
  have e : ordX gp gq gm (.slice none 0 0) = own3 gp gq gm := by
    funext b
    unfold ordX
    simp [Value.ownBlock]
  rw [e]
  exact h
theorem OrdAt.ext {w0 wr wx : World} {gp gq gm : Nat} {c : Cfg} {ls : List (List UInt8)} {k : Nat} {vo : Value} {outs : List (List UInt8)} {s : Pu} (h : OrdAt w0 wr gp gq gm c ls k vo outs s) (he : Ext wr wx) : OrdAt w0 wx gp gq gm c ls (k + 1) vo outs s :=
  ⟨h.own.ext he, h.pu.ext he, h.came, Nat.le_succ_of_le h.ret, h.out.then he⟩
theorem takeS_ret (w m : Int) (room : Nat) (s : Pu) (seq : Int) (data : List UInt8) : (takeS w m room s seq data).ret = s.ret := by
  rw [takeS_eq, enterS_ret]
  unfold keepS
  split <;> rfl
/-- One more is handed out: the row grows. -/
theorem OrdAt.more {w0 wr w2 w3 : World} {gp gq gm : Nat} {c : Cfg} {ls : List (List UInt8)} {k : Nat} {vo vo' : Value} {outs : List (List UInt8)} {x : List UInt8} {s s' : Pu}
    (h : OrdAt w0 wr gp gq gm c ls k vo outs s) (hX : ∀ b, own3 gp gq gm b → b < w0.heap.size) (hp2 : PuAt (ordX gp gq gm vo) w2 gp gq gm c s') (hrec : recvS c.room.toNat s = some (x, s')) (ho2 : Out (own3 gp gq gm) wr w2)
    (hr : s'.ret ≤ k + 1) (hown3 : Own (repSlice repByte) 33 w0.heap.size w3 vo' (outs ++ [x])) (hg3 : w2.grownBy w3 vo.ownBlock) (hb3 : vo'.ownBlock = vo.ownBlock ∨ vo'.ownBlock = some (w2.heap.size + 1)) : OrdAt w0 w3 gp gq gm c ls (k + 1) vo' (outs ++ [x]) s' := by
  have hne : ∀ b, vo.ownBlock = some b → ¬ own3 gp gq gm b := fun b hb h3 => by
    have := (h.own.lt b hb).1
    have := hX b h3
    omega
  refine ⟨hown3, hp2.move hg3 (fun b hb => ⟨.inr hb, hne b hb⟩) (fun b hb => .inl hb) (fun b hb => ?_) (fun b hb hy => ?_), (h.came.recv hrec).1, hr, ?_⟩
  · rcases hb with hb | hb
    · exact Nat.lt_of_lt_of_le (hp2.lt b hb) hg3.size
    · exact (hown3.lt b hb).2
  · rcases hy with hy | hy
    · exact .inl hy
    · rcases hb3 with e | e
      · exact .inr (by rw [← e]; exact hy)
      · rw [e] at hy
        injection hy with hy
        omega
  · have h12 := h.out.trans ho2
    refine ⟨hg3.os.trans h12.os, hg3.tape.trans h12.tape, hg3.output.trans h12.output, Nat.le_trans h12.size hg3.size, fun b hb hn => (hg3.block b (Nat.lt_of_lt_of_le hb h12.size) (fun e => ?_)).trans (h12.block b hb hn)⟩
    have := (h.own.lt b e.symm).1
    omega

theorem state_field (a b : Int) (w : World) : (Instr.field 38 (.agg #[.int .i64 a, .int .i64 b]) 0).run Try.prog w = .ok (.int .i64 a) w := by kernel_rfl

set_option maxRecDepth 100000
section
set_option maxHeartbeats 8000000 in
theorem orderMain_any (c : Cfg) (hc : c.Ok) (hw : (Lit.int .i64 c.w).wf = true) (hck : checkV c.w c.m c.l = 0) (v1 v2 : Value) (ls : List (List UInt8)) (os : List Int) (W : World) (o1 : IsSlice (repSlice repByte) W (all W) v1 ls) (o2 : IsSlice (repInt .i64) W (all W) v2 os)
    (h40 : ls.length ≤ 40) (h200 : os.length ≤ 200) :
    Calls Try.prog 3 #[.agg (cfgVals c).toArray, v1, v2] W fun e w' => e = .returned (.bool true) ∧ Ext W w' := by
  have HLV := hid pullLive_any
  have hb := Blk.new W 24 (cfgVals c).toArray
  have hx := ext_alloc W (.cells (cfgVals c).toArray 24)
  have b0 := hb.cell 0
  have b1 := hb.cell 1
  have b2 := hb.cell 2
  have b3 := hb.cell 3
  have b4 := hb.cell 4
  have b5 := hb.cell 5
  have b6 := hb.cell 6
  have HN := hid (fun W1 => newP_any W1 c hw hck hc.r1 hc.r2)
  obtain ⟨A1, n1, q1, rfl, hl1a, hl1b, hrow1⟩ := o1
  obtain ⟨A2, n2, q2, rfl, hl2a, hl2b, hrow2⟩ := o2
  have hn1 := hrow1.1
  have hn2 := hrow2.1
  rw [hn1] at h40
  rw [hn2] at h200
  have HN1 := hid hn1
  have HN2 := hid hn2
  have HC := hid hc
  obtain ⟨hw1, hwl, hw64, hl2, hm1, hm2, hr1, hr2⟩ := hc
  clear hn1 hn2 hck hw
  unfold cfgVals at *
  go_enter Try.func3, Try.ntmps3
  go_wp2_with (first
    | (go_at_call 14; refine (HN.out _).mono ?_; rintro e w1 ⟨gp, gq, gm, rfl, hp1, hx1, hg1, hg2, hg3⟩)
    | (go_at_call 15; refine (pnum_any _ _).mono ?_; rintro e w5 ⟨rfl, rfl⟩))
  clear b0 b1 b2 b3 b4 b5 b6
  have hxw := Ext.trans hx hx1
  have hb1 := hb.ext hx1
  have hgX : ∀ b, own3 gp gq gm b → W.heap.size + 1 ≤ b := fun b hb => by
    have : (W.alloc (.cells #[.int .i64 c.e, .int .i64 c.w, .int .i64 c.m, .int .i64 c.l, .int .i64 c.b, .int .i64 c.room, .int .u64 c.begin_] 24)).heap.size = W.heap.size + 1 := by simp
    rcases hb with rfl | rfl | rfl <;> (rw [← this]; assumption)
  clear hb hx
  have hst : OrdAt w1 w1 gp gq gm c ls 0 (.slice none 0 0) [] ⟨0, 0, [], []⟩ := ⟨own_nil _ _ _ _, ordX_nil hp1, came_nil _ _, Nat.le_refl _, Out.refl _ _⟩
  go_loopw [9, 10, 11] (fun vo told i wr => ∃ (k t : Nat) (outs : List (List UInt8)) (s : Pu), k ≤ n2 ∧ i = .int .i64 k ∧ told = .int .i64 t ∧ t ≤ s.ent ∧ OrdAt w1 wr gp gq gm c ls k vo outs s) (fun _ _ i _ => n2 - (intOf i).toNat)
  case atStart => exact ⟨0, 0, [], _, Nat.zero_le _, rfl, rfl, Nat.le_refl _, hst⟩
  case round =>
    obtain ⟨k, t, outs, s, hk, rfl, rfl, htold, hord⟩ := hrel
    have HORD := hid hord
    obtain ⟨hown, hpu, hcame, hret, hout⟩ := hord
    have hbr : Blk wr W.heap.size 24 (cfgVals c).toArray := hb1.out hout (fun hx => by have := hgX _ hx; omega)
    have hxr : Ext W wr := hout.ext_new hxw (fun b hb => by have := hgX b hb; omega)
    have e1 : wr.cell? ⟨W.heap.size, 1, none⟩ = some (.int .i64 c.w) := hbr.cell 1
    have e2 : wr.cell? ⟨W.heap.size, 2, none⟩ = some (.int .i64 c.m) := hbr.cell 2
    have e3 : wr.cell? ⟨W.heap.size, 3, none⟩ = some (.int .i64 c.l) := hbr.cell 3
    by_cases hlt : k < n2
    · obtain ⟨b, off, at_, rfl, hat, hcx, hatw⟩ := hrow2.intE hxr hlt
      have hatb := bounds_i64 hatw
      clear hat hatw
      obtain ⟨bd, hbd⟩ : ∃ bd : Bool, bd = decide (at_ < 0 ∨ (n1 : Int) ≤ at_ ∨ 64 < (ls.getD at_.toNat []).length) := ⟨_, rfl⟩
      have HBD := hid hbd
      clear hbd
      go_upto_region 10 with fail
      go_cut [62] (fun s62 wx => s62 = .bool bd ∧ wx = wr)
      case first =>
        by_cases h0 : at_ < 0
        · have hbt : bd = true := by rw [HBD.out]; exact decide_eq_true (.inl h0)
          subst hbt
          go_wp2_with fail
          go_meet
          exact ⟨rfl, rfl⟩
        · by_cases h1 : (n1 : Int) ≤ at_
          · have hbt : bd = true := by rw [HBD.out]; exact decide_eq_true (.inr (.inl h1))
            subst hbt
            go_wp2_with fail
            go_meet
            exact ⟨rfl, rfl⟩
          · obtain ⟨n, rfl⟩ : ∃ n : Nat, at_ = n := ⟨at_.toNat, by omega⟩
            have hn : n < n1 := by omega
            obtain ⟨b', off', A', m', c', x, rfl, hx, hs, hm, hcx'⟩ := hrow1.sliceE hxr hn
            have hbt : bd = decide ((64 : Int) < (m' : Int)) := by
              rw [HBD.out]
              have : ls.getD (n : Int).toNat [] = x := by rw [Int.toNat_natCast, List.getD_eq_getElem?_getD, hx]; rfl
              rw [this]
              apply Bool.eq_iff_iff.2
              rw [decide_eq_true_iff, decide_eq_true_iff]
              omega
            clear HBD hx hs hm
            go_wp2_with fail
            go_meet
            exact ⟨by rw [hbt], rfl⟩
      case rest =>
        obtain ⟨rfl, hwc⟩ := hcut
        rw [hwc]
        clear hwc
        cases bd with
        | true =>
          clear HBD
          cases hq : s.q with
          | nil =>
            have HRN := hid (recvNil_any _ _ gp gq gm c s hpu hq)
            go_wp2_with (go_at_call 17; refine HRN.out.mono ?_; rintro e w2 ⟨rfl, rfl⟩)
            refine ⟨⟨k + 1, t, outs, s, by omega, by go_num, rfl, htold, ⟨hown, hpu, hcame, Nat.le_succ_of_le hret, hout⟩⟩, ?_⟩
            simp [intOf]
            omega
          | cons x q =>
            have hle := hcame.le
            have hln := HN1.out
            obtain ⟨S2, hS2⟩ : ∃ S2, S2 = enterS c.room.toNat ⟨s.ent, s.ret + 1, q, s.ah⟩ := ⟨_, rfl⟩
            have hrec : recvS c.room.toNat s = some (x, S2) := by rw [hS2]; unfold recvS; rw [hq]
            have hS2r : S2.ret = s.ret + 1 := by rw [hS2]; exact enterS_ret _ _
            have HRC := hid (recv_any _ _ gp gq gm c s hpu HC.out (by omega) (by omega) x S2 hrec)
            have hol : outs.length ≤ 40 := by
              have h1 := congrArg List.length hcame.row
              rw [List.length_append, List.length_take] at h1
              omega
            have HREC := hid hrec
            have hmono := (hcame.recv hrec).2
            clear hS2 hrec hq hln
            go_wp2_with (first
              | (go_at_call 17; refine HRC.out.mono ?_; rintro e w2 ⟨u, v, rfl, hu, hv, hp2, ho2⟩; obtain ⟨Au, cu, rfl⟩ := hu.shape; have hown2 := hown.out ho2 hp1.lt; have hu2 := hu.newer hown.lt hout.size; have hsz2 := Nat.le_trans hout.size ho2.size)
              | (at_builtin; refine wpl_app1m (r := repSlice repByte) (base := w1.heap.size) (x := x) _ _ rfl rfl Try.underlying25 info_bytes (by decide) hown2 rfl rfl rfl (isSlice_single hu2) (by omega) (by simp only [maxLen]; omega) hsz2 ?_; intro v3 w3 hown3 hg3 hb3))
            refine ⟨⟨k + 1, t, outs ++ [x], S2, by omega, by go_num, rfl, by omega, HORD.out.more hp1.lt hp2 HREC.out ho2 (by omega) hown3 hg3 hb3⟩, ?_⟩
            simp [intOf]
            omega
        | false =>
          have hbd := HBD.out.symm
          rw [decide_eq_false_iff_not] at hbd
          obtain ⟨n, rfl⟩ : ∃ n : Nat, at_ = n := ⟨at_.toNat, by omega⟩
          have hn : n < n1 := by omega
          obtain ⟨b', off', A', m', c', x, rfl, hx, hs, hm, hcx'⟩ := hrow1.sliceE hxr hn
          have hx64 : x.length ≤ 64 := by
            have : ls.getD (n : Int).toNat [] = x := by rw [Int.toNat_natCast, List.getD_eq_getElem?_getD, hx]; rfl
            rw [this] at hbd
            omega
          have HXN := hid hx
          have hsr := hs.ext hxr
          have HM := hid hm
          have hlb' := lt_of_cell' hcx'
          clear hx hs hm hbd HBD
          have hle := hcame.le
          have hln := HN1.out
          obtain ⟨far, hfar⟩ : ∃ far : Bool, far = decide ((s.ent : Int) + c.w ≤ (n : Int) ∨ (n : Int) < (s.ent : Int) - c.l) := ⟨_, rfl⟩
          have HFAR := hid hfar
          have hent40 : s.ent ≤ 40 := by omega
          clear hfar hln hle
          have HST := hid (fun (W1 : World) (hW : PuAt (ordX gp gq gm u9) W1 gp gq gm c s) => state_any _ W1 gp gq gm c s hW)
          have hlC := hbr.lt
          have hfd := state_field
          have hwr1 : IntKind.i64.wrap ((s.ent : Int) + c.w) = (s.ent : Int) + c.w := by rw [IntKind.wrap_i64]; omega
          have hwr2 : IntKind.i64.wrap ((s.ent : Int) - c.l) = (s.ent : Int) - c.l := by rw [IntKind.wrap_i64]; omega
          go_upto_region 14 with fail
          go_cut [91] (fun s91 wx => s91 = .bool far ∧ Ext wr wx)
          case first =>
            have hpd : PuAt (ordX gp gq gm u9) wr.drew gp gq gm c s := hpu.ext (Below.drew (Below.refl _ _))
            have HS3 := hid (fun (w1 : World) (he : Ext wr w1) => (⟨(he.cell hlC _).trans e1, (he.cell hlC _).trans e3, he⟩ : w1.cell? ⟨W.heap.size, 1, none⟩ = some (.int .i64 c.w) ∧ w1.cell? ⟨W.heap.size, 3, none⟩ = some (.int .i64 c.l) ∧ Ext wr w1))
            have xd : Ext wr wr.drew := Below.drew (Below.refl _ _)
            by_cases hf1 : (s.ent : Int) + c.w ≤ (n : Int)
            · have hft : far = true := by rw [HFAR.out]; exact decide_eq_true (.inl hf1)
              subst hft
              have hfn : ¬ (n : Int) < (s.ent : Int) + c.w := by omega
              have hfB1 : decide ((s.ent : Int) + c.w ≤ (n : Int)) = true := decide_eq_true hf1
              refine wp_region_held_drew (S := (fun w' => w'.cell? ⟨W.heap.size, 1, none⟩ = some (.int .i64 c.w) ∧ w'.cell? ⟨W.heap.size, 3, none⟩ = some (.int .i64 c.l) ∧ Ext wr w')) (by kernel_rfl) (HS3.out _ xd) ?_
              intro hSd
              refine wpAnyH_take (i := 0) (v := ?v0) rfl (by kernel_rfl) (by kernel_rfl) (by kernel_rfl) (fun _ _ _ h => h) (Or.inl ⟨by kernel_rfl, ?hy0⟩) (by assumption) ?go0
              case hy0 => (intro w hSw; (try dsimp only at hSw); go_simp; try with_reducible rfl)
              simp only [Act.put, List.setIfInBounds_toArray, List.set_cons_zero, List.set_cons_succ]
              refine wpAnyH_take (i := 1) (v := ?v1) rfl (by kernel_rfl) (by kernel_rfl) (by kernel_rfl) (fun _ _ _ h => h) (Or.inl ⟨by kernel_rfl, ?hy1⟩) (by assumption) ?go1
              case hy1 => (intro w hSw; (try dsimp only at hSw); go_simp; try with_reducible rfl)
              simp only [Act.put, List.setIfInBounds_toArray, List.set_cons_zero, List.set_cons_succ]
              refine wpAnyH_take (i := 4) (v := ?v4) rfl (by kernel_rfl) (by kernel_rfl) (by kernel_rfl) (fun _ _ _ h => h) (Or.inl ⟨by kernel_rfl, ?hy4⟩) (by assumption) ?go4
              case hy4 => (intro w hSw; (try dsimp only at hSw); go_simp; try with_reducible rfl)
              simp only [Act.put, List.setIfInBounds_toArray, List.set_cons_zero, List.set_cons_succ]
              refine wpAnyH_take (i := 5) (v := ?v5) rfl (by kernel_rfl) (by kernel_rfl) (by kernel_rfl) (fun _ _ _ h => h) (Or.inl ⟨by kernel_rfl, ?hy5⟩) (by assumption) ?go5
              case hy5 => (intro w hSw; (try dsimp only at hSw); go_simp; try with_reducible rfl)
              simp only [Act.put, List.setIfInBounds_toArray, List.set_cons_zero, List.set_cons_succ]
              refine wpAnyH_ready (rs := [2]) (by kernel_rfl) (by simp) ?_
              refine AllReadyH.cons rfl (fun K hK => ?_) AllReadyH.nil
              go_simp
              go_at_call 18
              refine (HST.out _ hpd).mono ?_
              rintro e w2 ⟨rfl, hx2⟩
              have xd2 := Ext.trans xd hx2
              refine hK.out _ _ (HS3.out _ xd2) (fun hHeld => ?_)
              clear hK K
              refine wpAnyH_take (i := 3) (v := ?v3) rfl (by kernel_rfl) (by kernel_rfl) (by kernel_rfl) (fun _ _ _ h => h) (Or.inl ⟨by kernel_rfl, ?hy3⟩) (by assumption) ?go3
              case hy3 => (intro w hSw; (try dsimp only at hSw); go_simp; try with_reducible rfl)
              simp only [Act.put, List.setIfInBounds_toArray, List.set_cons_zero, List.set_cons_succ]
              refine wpAnyH_take (i := 6) (v := ?v6) rfl (by kernel_rfl) (by kernel_rfl) (by kernel_rfl) (fun _ _ _ h => h) (Or.inl ⟨by kernel_rfl, ?hy6⟩) (by assumption) ?go6
              case hy6 => (intro w hSw; (try dsimp only at hSw); go_simp; try with_reducible rfl)
              simp only [Act.put, List.setIfInBounds_toArray, List.set_cons_zero, List.set_cons_succ]
              refine wpAnyH_take (i := 7) (v := ?v7) rfl (by kernel_rfl) (by kernel_rfl) (by kernel_rfl) (fun _ _ _ h => h) (Or.inl ⟨by kernel_rfl, ?hy7⟩) (by assumption) ?go7
              case hy7 => (intro w hSw; (try dsimp only at hSw); go_simp; try with_reducible rfl)
              simp only [Act.put, List.setIfInBounds_toArray, List.set_cons_zero, List.set_cons_succ]
              refine wpAnyH_take (i := 8) (v := ?v8) rfl (by kernel_rfl) (by kernel_rfl) (by kernel_rfl) (fun _ _ _ h => h) (Or.inl ⟨by kernel_rfl, ?hy8⟩) (by assumption) ?go8
              case hy8 => (intro w hSw; (try dsimp only at hSw); go_simp; try with_reducible rfl)
              simp only [Act.put, List.setIfInBounds_toArray, List.set_cons_zero, List.set_cons_succ]
              refine wpAnyH_take (i := 9) (v := undef) rfl (by kernel_rfl) (by kernel_rfl) (by kernel_rfl) (fun _ _ _ h => h) (Or.inr ⟨by kernel_rfl, rfl⟩) (by assumption) ?_
              simp only [Act.put, List.setIfInBounds_toArray, List.set_cons_zero, List.set_cons_succ]
              refine wpAnyH_take (i := 10) (v := undef) rfl (by kernel_rfl) (by kernel_rfl) (by kernel_rfl) (fun _ _ _ h => h) (Or.inr ⟨by kernel_rfl, rfl⟩) (by assumption) ?_
              simp only [Act.put, List.setIfInBounds_toArray, List.set_cons_zero, List.set_cons_succ]
              refine wpAnyH_take (i := 11) (v := undef) rfl (by kernel_rfl) (by kernel_rfl) (by kernel_rfl) (fun _ _ _ h => h) (Or.inr ⟨by kernel_rfl, rfl⟩) (by assumption) ?_
              simp only [Act.put, List.setIfInBounds_toArray, List.set_cons_zero, List.set_cons_succ]
              refine wpAnyH_take (i := 12) (v := undef) rfl (by kernel_rfl) (by kernel_rfl) (by kernel_rfl) (fun _ _ _ h => h) (Or.inr ⟨by kernel_rfl, rfl⟩) (by assumption) ?_
              simp only [Act.put, List.setIfInBounds_toArray, List.set_cons_zero, List.set_cons_succ]
              refine wpAnyH_take (i := 13) (v := undef) rfl (by kernel_rfl) (by kernel_rfl) (by kernel_rfl) (fun _ _ _ h => h) (Or.inr ⟨by kernel_rfl, rfl⟩) (by assumption) ?_
              simp only [Act.put, List.setIfInBounds_toArray, List.set_cons_zero, List.set_cons_succ]
              refine wpAnyH_take (i := 14) (v := undef) rfl (by kernel_rfl) (by kernel_rfl) (by kernel_rfl) (fun _ _ _ h => h) (Or.inr ⟨by kernel_rfl, rfl⟩) (by assumption) ?_
              simp only [Act.put, List.setIfInBounds_toArray, List.set_cons_zero, List.set_cons_succ]
              refine wpAnyH_take (i := 15) (v := undef) rfl (by kernel_rfl) (by kernel_rfl) (by kernel_rfl) (fun _ _ _ h => h) (Or.inr ⟨by kernel_rfl, rfl⟩) (by assumption) ?_
              simp only [Act.put, List.setIfInBounds_toArray, List.set_cons_zero, List.set_cons_succ]
              refine wpAnyH_take (i := 16) (v := undef) rfl (by kernel_rfl) (by kernel_rfl) (by kernel_rfl) (fun _ _ _ h => h) (Or.inr ⟨by kernel_rfl, rfl⟩) (by assumption) ?_
              simp only [Act.put, List.setIfInBounds_toArray, List.set_cons_zero, List.set_cons_succ]
              refine wpAnyH_take (i := 17) (v := ?v17) rfl (by kernel_rfl) (by kernel_rfl) (by kernel_rfl) (fun _ _ _ h => h) (Or.inl ⟨by kernel_rfl, ?hy17⟩) (by assumption) ?go17
              case hy17 => (intro w hSw; (try dsimp only at hSw); go_simp; try with_reducible rfl)
              simp only [Act.put, List.setIfInBounds_toArray, List.set_cons_zero, List.set_cons_succ]
              refine wpAnyH_done (by kernel_rfl) ?_ _
              go_wp2_with fail
              go_meet
              exact ⟨rfl, xd2⟩
            · have hf2 : ¬ (s.ent : Int) + c.w ≤ (n : Int) := hf1
              have hfn : (n : Int) < (s.ent : Int) + c.w := by omega
              have hfB1 : decide ((s.ent : Int) + c.w ≤ (n : Int)) = false := decide_eq_false hf1
              have hft : far = decide ((n : Int) < (s.ent : Int) - c.l) := by
                rw [HFAR.out]
                apply Bool.eq_iff_iff.2
                rw [decide_eq_true_iff, decide_eq_true_iff]
                omega
              have HFT := hid hft
              clear hft hf2
              go_region_held3 (fun w' => w'.cell? ⟨W.heap.size, 1, none⟩ = some (.int .i64 c.w) ∧ w'.cell? ⟨W.heap.size, 3, none⟩ = some (.int .i64 c.l) ∧ Ext wr w')
                (first | with_reducible exact HS3.out _ xd | with_reducible exact HS3.out _ xd2 | with_reducible exact HS3.out _ xd3)
                (first
                  | (go_at_call 18; refine (HST.out _ hpd2).mono ?_; rintro e w3 ⟨rfl, hx3⟩; have xd3 := Ext.trans xd2 hx3)
                  | (go_at_call 18; refine (HST.out _ hpd).mono ?_; rintro e w2 ⟨rfl, hx2⟩; have xd2 := Ext.trans xd hx2; have hpd2 := hpd.ext hx2))
              go_wp2_with fail
              go_meet
              exact ⟨by rw [HFT.out], xd3⟩
          case rest =>
            obtain ⟨rfl, hxc⟩ := hcut
            have hordc := HORD.out.ext hxc
            clear hfd hwr1 hwr2
            cases far with
            | true =>
              clear HFAR
              go_wp2
              refine ⟨⟨k + 1, t, outs, s, by omega, by go_num, rfl, htold, hordc⟩, ?_⟩
              simp [intOf]
              omega
            | false =>
              have hnf := HFAR.out.symm
              rw [decide_eq_false_iff_not] at hnf
              have hlo : (s.ent : Int) - c.l ≤ (n : Int) := by omega
              have hhi : (n : Int) < (s.ent : Int) + c.w := by omega
              clear hnf HFAR
              obtain ⟨seq, hseq⟩ : ∃ seq : Int, seq = (n : Int) % c.m := ⟨_, rfl⟩
              have hsq : Int.tmod (n : Int) c.m = seq := by rw [hseq, Int.tmod_eq_emod_of_nonneg (by omega)]
              have hmz : c.m ≠ 0 := by omega
              have hmb : (c.m == 0) = false := by simp; omega
              have HLSZ := HN1.out
              have hcm := hcame.take (w := c.w) (lf := c.l) (m := c.m) (by omega) HXN.out hhi hlo hw1 hwl hm1 hm2
              rw [← hseq] at hcm
              have hsr2 : 0 ≤ seq ∧ seq < c.m := by rw [hseq]; exact ⟨Int.emod_nonneg _ hmz, Int.emod_lt_of_pos _ (by omega)⟩
              have hwq : IntKind.i64.wrap seq = seq := by rw [IntKind.wrap_i64]; omega
              clear hseq
              obtain ⟨S2, hS2⟩ : ∃ S2, S2 = takeS c.w c.m c.room.toNat s seq x := ⟨_, rfl⟩
              have hS2r : S2.ret = s.ret := by rw [hS2]; exact takeS_ret _ _ _ _ _ _
              have HTK := hid (fun (W1 : World) (hW : PuAt (ordX gp gq gm u9) W1 gp gq gm c s) (v : Value) (hv : IsSlice repByte W1 (all W1) v x) => take_any _ W1 gp gq gm c s hW HC.out (by omega) seq 0 v x hv (by omega))
              rw [← hS2] at HTK hcm
              obtain ⟨hcm2, hmono⟩ := hcm
              clear hS2
              have hsc := hsr.ext hxc
              have hpc := hordc.pu
              have f2 := (Ext.cell hxc hlC _).trans e2
              have fx := (Ext.cell hxc hlb' _).trans hcx'
              have hlCc := Nat.lt_of_lt_of_le hlC hxc.size
              have hlbc := Nat.lt_of_lt_of_le hlb' hxc.size
              clear e1 e2 e3 hcx'
              go_wp2_with fail
              refine region_still_tail 10 (by kernel_rfl) (by kernel_rfl) ?_
              intro w4 hw4
              have hx4 : Ext wc w4 := by rw [hw4]; exact ext_drewN _ _
              clear hw4
              have i2 := (Ext.cell hx4 hlCc _).trans f2
              have ix := (Ext.cell hx4 hlbc _).trans fx
              simp only [List.take_succ_cons, List.take_zero, List.drop_succ_cons, List.drop_zero]
              repeat still_step
              refine wpStill_nil ?_
              have HT4 := hid (HTK.out w4 (hpc.ext hx4) _ (hsc.ext hx4))
              have hx4c := Ext.trans hxc hx4
              have hfd := state_field
              go_wp2_with (first
                | (go_at_call 19; refine HT4.out.mono ?_; rintro e w5 ⟨ux, rfl, hu5, hp5, ho5⟩; obtain ⟨Ax, nx, cx, rfl, _, _, hrx⟩ := hu5.any; have hnx : 1 = nx := hrx.1; subst hnx)
                | (go_at_call 18; refine (state_any _ w5 gp gq gm c S2 hp5).mono ?_; rintro e w6 ⟨rfl, hx6⟩))
              obtain ⟨bx, ox, y, Ay, cy, rfl, _, hy, _, y0, y1, _, _⟩ := hrx.slE hx6 (k := 0) (by omega)
              have hye : y = tellS c S2 := by simpa using hy.symm
              subst hye
              have hack : (tellS c S2).ack = true := rfl
              have hseq2 : (tellS c S2).seq = modV S2.ent c.m := rfl
              rw [hack, Nat.zero_mul, Nat.add_zero] at y0
              rw [hseq2, Nat.zero_mul, Nat.add_zero] at y1
              obtain ⟨sq2, hsq2⟩ : ∃ sq2, sq2 = modV S2.ent c.m := ⟨_, rfl⟩
              rw [← hsq2] at y1
              have hin2 := modV_in (place := (S2.ent : Int)) (m := c.m) (by omega)
              rw [← hsq2] at hin2
              have htm2 : Int.tmod (S2.ent : Int) c.m = sq2 := by rw [hsq2, modV_pos (by omega), Int.tmod_eq_emod_of_nonneg (by omega)]
              have hw2q : IntKind.i64.wrap sq2 = sq2 := by rw [IntKind.wrap_i64]; omega
              clear hsq2 hy hack hseq2
              have k2 := (Ext.cell hx6 (Nat.lt_of_lt_of_le hlCc (Nat.le_trans hx4.size ho5.size)) 2).trans ((ho5.cell (Nat.lt_of_lt_of_le hlCc hx4.size) (fun hb => by have := hgX _ hb; omega) 2).trans i2)
              have hS2n := hcm2.le
              have g1 : decide ((S2.ent : Int) < (t : Int)) = false := decide_eq_false (by omega)
              have g2 : decide ((n1 : Int) < (S2.ent : Int)) = false := decide_eq_false (by omega)
              have g3 : decide (S2.ent < t) = false := decide_eq_false (by omega)
              have g4 : decide (n1 < S2.ent) = false := decide_eq_false (by omega)
              go_quiet (fail)
              go_wp2
              refine ⟨⟨k + 1, S2.ent, outs, S2, by omega, by go_num, rfl, Nat.le_refl _, ⟨(((hordc.own.ext hx4).out ho5 hp1.lt).ext hx6).ext (ext_drewN _ _), (hp5.ext hx6).drewN _, hcm2, by omega, (((hordc.out.then hx4).trans ho5).then hx6).then (ext_drewN _ _)⟩⟩, ?_⟩
              simp [intOf]
              omega
    · obtain rfl : k = n2 := by omega
      have hne : ∀ b, u9.ownBlock = some b → ¬ own3 gp gq gm b := fun b hb h3 => by
        have := (hown.lt b hb).1
        have := hp1.lt b h3
        omega
      have hrow := hcame.row
      have hle := hcame.le
      have hln := HN1.out
      have hFl : (outs ++ s.q).length = s.ent := by rw [hrow, List.length_take]; omega
      have hFl2 : outs.length + s.q.length = s.ent := by rw [← List.length_append]; exact hFl
      have HKP := hid (kept_any _ wr gp gq gm c s hpu)
      have hfd := state_field
      have hsl : IsSlice (repSlice repByte) W (all W) (.slice A1 n1 q1) ls := ⟨A1, n1, q1, rfl, hl1a, hl1b, hrow1⟩
      obtain ⟨A', hcut, hsc⟩ := cut_to (P := Try.prog) Try.underlying25 info_bytes hsl (k := s.ent) (by omega)
      have HLE := hid hle
      have HTK := hid (show (ls.take s.ent).length = s.ent by rw [List.length_take]; omega)
      have he1 : s.ent ≤ n1 := by omega
      have he2 : (s.ent : Int) ≤ (n1 : Int) := by omega
      have he3 : decide ((s.ent : Int) ≤ (n1 : Int)) = true := decide_eq_true he2
      have HFF := hid hrow
      have HFL := hid hFl
      have HFL2 := hid hFl2
      clear hrow hFl hFl2 hle hln e1 e2 e3
      go_wp2_with (first
        | (go_at_call 20; refine HKP.out.mono ?_; rintro e w2 ⟨u, rfl, hu, hx2⟩; obtain ⟨Au, nu, cu, rfl, hu1, hu2, hu3⟩ := hu; have hown2 := hown.ext hx2; have hsz2 := Nat.le_trans hout.size hx2.size; have hin2 : SliceIn (repSlice repByte) w2 (nb w2 u9) (el w1.heap.size w2 u9) (.slice Au nu cu) s.q := ⟨Au, nu, cu, rfl, hu1, hu2, RowIn.keep hu3 (fun b hb => ⟨⟨hb.2, fun e => by have := (hown.lt b e).2; have := hb.1; omega⟩, fun _ => rfl⟩) (fun b hb => ⟨⟨Nat.le_trans hout.size hb.1, hb.2, fun e => by have := (hown.lt b e).2; have := hb.1; omega⟩, fun _ => rfl⟩)⟩)
        | (at_builtin; refine wpl_app (r := repSlice repByte) (base := w1.heap.size) _ _ rfl rfl Try.underlying25 info_bytes (by decide) hown2 hin2 rfl rfl (by have := HFL2.out; have := HLE.out; have := HN1.out; omega) (by have := HFL2.out; have := HLE.out; have := HN1.out; simp only [maxLen]; omega) hsz2 ?_; intro v3 w3 hown3 hg3 hb3; rw [HFF.out] at hown3; have hF3 := hown3.slice; obtain ⟨A3, n3, c3, hv3e, _, _, hr3⟩ := hF3; have hn3 : n3 = s.ent := hr3.1.symm.trans HTK.out; subst hv3e; subst hn3))
      have hp3 : PuAt (own3 gp gq gm) w3 gp gq gm c s := (hpu.ext hx2).move hg3 (fun b hb => ⟨.inr hb, hne b hb⟩) (fun _ h => h) (fun b hb => Nat.lt_of_lt_of_le ((hpu.ext hx2).lt b hb) hg3.size) (fun b _ hy => .inl hy)
      have hsF := hown3.slice
      have hx3 : Ext W w3 := Below.grown (Ext.trans hxr hx2) hg3 (Ext.trans hxr hx2).size (fun b hb => Nat.le_trans hxw.size (hown.lt b hb).1)
      have hsC := hsc.ext hx3
      have HSA := hid (fun (W1 : World) (he : Ext w3 W1) => sameAllB_any _ _ _ _ W1 (hsF.ext he) (hsC.ext he))
      simp only [decide_true] at HSA
      clear hown3 hg3 hb3 hr3 hsF hsC hsc hin2 hu3 hown2
      go_wp2_with (first
        | (go_at_call 18; refine (state_any _ w3 gp gq gm c s hp3).mono ?_; rintro e w4 ⟨rfl, hx4⟩)
        | (go_at_call 21; refine (HSA.out _ hx4).mono ?_; rintro e w5 ⟨rfl, kd5, hw5⟩; have hx5 : Ext w4 w5 := hw5 ▸ ext_drewN _ _; clear hw5)
        | (go_at_call 16; refine (HLV.out _).mono ?_; rintro e w6 ⟨rfl, hx6⟩))
      go_ret
      exact ⟨rfl, Ext.trans (Ext.trans (Ext.trans hx3 hx4) hx5) hx6⟩
end
end Go.Proofs.Ytjchobncmogcpaa
