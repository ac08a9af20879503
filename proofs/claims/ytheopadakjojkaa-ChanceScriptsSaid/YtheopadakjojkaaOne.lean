/- The walk of chance's reference's One. -/
import Derived.Deep.RegionLaw
import Derived.Test.YtheopadakjojkaaSame
namespace Go.Proofs.Ytheopadakjojkaa
open Go.RowKit

theorem RDiceAt.ext {w w' : World} {g : Nat} {s : Int} (h : RDiceAt w g s) (he : Ext w w') : RDiceAt w' g s := ⟨h.1.ext he, h.2⟩
theorem RDiceAt.far {w : World} {g : Nat} {s : Int} (h : RDiceAt w g s) {p : Addr} (hp : g ≠ p.block) (u : Value) : RDiceAt (w.setCell p u) g s := ⟨h.1.far hp u, h.2⟩

section
variable {P : Program} {α : Type} {r : Rep α} {w : World} {ops : Array Oper} {o : Oper} {a : Act} {K : Act → World → Prop} {Q : Exit → Act → World → Prop} {E : Prop}
/-- 'append(out, x)' behind the new block, as a step of a region. -/
theorem step_app1 {base g : Nat} {t e : TypeId} {bytes : Nat} {v : Value} {xs : List α} {x : α} {cs : Array Value} (s y : Operand) (hgd : o.guard = none)
    (ho : o.op = .call { callee := .builtin .append, args := #[s, y], argTypes := #[t, t] }) (ht : P.underlying t = some (.slice e)) (hi : ElemInfo P e r.size bytes) (hsz : 0 < r.size)
    (hown : Own r e base w v xs) (hs : a.eval s = v) (hx : a.eval y = .slice (some ⟨g, 0, none⟩) 1 1) (hg : g = w.heap.size) (hu : r.holds w (el base w v) cs.toList x)
    (hbytes : (xs.length + 1) * bytes ≤ 140737488355328) (h63 : xs.length + 1 ≤ maxLen) (hbase : base ≤ w.heap.size)
    (h : ∀ v' w', Own r e base w' v' (xs ++ [x]) → w.grownBy w' v.ownBlock → K (a.put o.dst v') w') : if Region.wanted o (yielded ops a.tmps) = true then o.wp P a (w.alloc (.cells cs e)) K Q else E := by
  have hw : Region.wanted o (yielded ops a.tmps) = true := by simp [Region.wanted, hgd]
  rw [if_pos hw]
  subst hg
  refine wp_app s y ho ht hi hsz (hown.ext (ext_alloc w _)) (isSlice_one hu fun k hk => (hown.lt k hk).2) hs hx hbytes h63 (by simp; omega) fun v' w' h1 h2 _ => h v' w' h1 ?_
  refine ⟨h2.os, h2.tape, h2.output, Nat.le_trans (by simp) h2.size, fun k hk hne => (h2.block k (by simp; omega) hne).trans (Below.heap_alloc w _ k hk)⟩
end

theorem Only.below {g B : Nat} {a b c : World} (h : Only g a b) (k : Below B b c) (hB : a.heap.size ≤ B) : Only g a c :=
  ⟨k.os.trans h.os, k.tape.trans h.tape, k.output.trans h.output, Nat.le_trans h.size k.size, fun i hi hne => (k.block i (Nat.lt_of_lt_of_le hi hB)).trans (h.block i hi hne)⟩
theorem edCells {w : World} {g : Nat} {t : TypeId} {x y z : Value} (h : Blk w g t #[x, y, z]) : w.cell? ⟨g, 0, none⟩ = some x ∧ w.cell? ⟨g, 1, none⟩ = some y ∧ w.cell? ⟨g, 2, none⟩ = some z ∧ w.frozen? ⟨g, 0, none⟩ = false ∧ w.frozen? ⟨g, 1, none⟩ = false ∧ w.frozen? ⟨g, 2, none⟩ = false :=
  ⟨h.cell 0, h.cell 1, h.cell 2, h.frozen 0, h.frozen 1, h.frozen 2⟩

set_option maxRecDepth 100000
section
set_option maxHeartbeats 1600000 in
theorem one_any (w : World) (g : Nat) (s : Int) (a b c d e f i j : Int) (hz : sumG [a, b, c, d, e, f, i, j] 0 ≠ 0) (h : RDiceAt w g s) :
    Calls Try.prog 97 #[.pointer (some ⟨g, 0, none⟩), w8 a b c d e f i j] w fun r w' => ∃ cs, r = .returned (.agg cs) ∧ repCh.holds w' (fresh w w') cs.toList (oneG [a, b, c, d, e, f, i, j] s).1 ∧ RDiceAt w' g (oneG [a, b, c, d, e, f, i, j] s).2 ∧ Only g w w' := by
  obtain ⟨hin, hs1, hs2⟩ := sumG_in [a, b, c, d, e, f, i, j] 0 (by omega) hz
  unfold oneG
  have hsum := fun w => sumR_any a b c d e f i j w
  have hlen : [a, b, c, d, e, f, i, j].length = 8 := rfl
  have hix := fun (k : Nat) (x : Int) (hx : [a, b, c, d, e, f, i, j][k]? = some x) => w8_get hx
  have hr := below_range s hs1
  generalize [a, b, c, d, e, f, i, j] = l at *
  rw [hlen] at hs2
  have hb := fun w h => belowR_any w g s (sumG l 0) h hs1 (by omega)
  have hst : belowI s (sumG l 0) + 0 < sumG l 0 := by omega
  generalize belowI s (sumG l 0) = n at *
  obtain ⟨K, hK⟩ : ∃ K, K = kindG l n 0 := ⟨_, rfl⟩
  rw [← hK]
  generalize hsm : sumG l 0 = sm at *
  have HSM := hid hsm
  have HS := hid hsum
  have HB := hid hb
  have HL := hid hlen
  have HIX := hid hix
  have HKK := hid hK
  have HST := hid hst
  have HIN := hid hin
  have hlt := h.1.lt
  clear hsum hb hlen hix hK hst hin hsm hz
  go_enter Try.func97, Try.ntmps97
  go_wp2_with fail
  have hd0 : RDiceAt ((w.alloc (.cells #[.int .i64 a, .int .i64 b, .int .i64 c, .int .i64 d, .int .i64 e, .int .i64 f, .int .i64 i, .int .i64 j] 72)).alloc (.cells #[.int .i64 0, .int .i64 0, .int .i64 0, .slice none 0 0, .slice none 0 0] 84)) g s := h.ext (Ext.trans (ext_alloc _ _) (ext_alloc _ _))
  have ho0 : Only g w ((w.alloc (.cells #[.int .i64 a, .int .i64 b, .int .i64 c, .int .i64 d, .int .i64 e, .int .i64 f, .int .i64 i, .int .i64 j] 72)).alloc (.cells #[.int .i64 0, .int .i64 0, .int .i64 0, .slice none 0 0, .slice none 0 0] 84)) := Only.of_ext (Ext.trans (ext_alloc _ _) (ext_alloc _ _))
  have hr0 : Blk ((w.alloc (.cells #[.int .i64 a, .int .i64 b, .int .i64 c, .int .i64 d, .int .i64 e, .int .i64 f, .int .i64 i, .int .i64 j] 72)).alloc (.cells #[.int .i64 0, .int .i64 0, .int .i64 0, .slice none 0 0, .slice none 0 0] 84)) (w.heap.size + 1) 84 #[.int .i64 0, .int .i64 0, .int .i64 0, .slice none 0 0, .slice none 0 0] := by
    have := Blk.new (w.alloc (.cells #[.int .i64 a, .int .i64 b, .int .i64 c, .int .i64 d, .int .i64 e, .int .i64 f, .int .i64 i, .int .i64 j] 72)) 84 #[.int .i64 0, .int .i64 0, .int .i64 0, .slice none 0 0, .slice none 0 0]
    simpa using this
  have hw0 : Blk ((w.alloc (.cells #[.int .i64 a, .int .i64 b, .int .i64 c, .int .i64 d, .int .i64 e, .int .i64 f, .int .i64 i, .int .i64 j] 72)).alloc (.cells #[.int .i64 0, .int .i64 0, .int .i64 0, .slice none 0 0, .slice none 0 0] 84)) w.heap.size 72 #[.int .i64 a, .int .i64 b, .int .i64 c, .int .i64 d, .int .i64 e, .int .i64 f, .int .i64 i, .int .i64 j] := (Blk.new _ _ _).ext (ext_alloc _ _)
  generalize ((w.alloc (.cells #[.int .i64 a, .int .i64 b, .int .i64 c, .int .i64 d, .int .i64 e, .int .i64 f, .int .i64 i, .int .i64 j] 72)).alloc (.cells #[.int .i64 0, .int .i64 0, .int .i64 0, .slice none 0 0, .slice none 0 0] 84)) = v0 at *
  have hg1 : some (w.heap.size + 1) ≠ some g := fun e => by injection e with e; omega
  have hg2 : some w.heap.size ≠ some g := fun e => by injection e with e; omega
  refine (HS.out _).mono ?_
  rintro r v1 ⟨rfl, hx1⟩
  go_wp2_with fail
  refine (HB.out _ (hd0.ext hx1)).mono ?_
  rintro r v2 ⟨rfl, hd2, ho2⟩
  have hr2 := (hr0.ext hx1).grown ho2 hg1
  have hw2 := (hw0.ext hx1).grown ho2 hg2
  have ho02 := (ho0.then hx1).trans ho2
  have hs2 := hr2.lt
  go_upto_region 3 with fail
  have hr3 := hr2.alloc (.cells #[.int .i64 0, .int .i64 0, .int .i64 0, .slice none 0 0, .slice none 0 0] 84)
  have hw3 := hw2.alloc (.cells #[.int .i64 0, .int .i64 0, .int .i64 0, .slice none 0 0, .slice none 0 0] 84)
  have hd3 : RDiceAt (v2.alloc (.cells #[.int .i64 0, .int .i64 0, .int .i64 0, .slice none 0 0, .slice none 0 0] 84)) g (stepI s) := hd2.ext (ext_alloc _ _)
  have ho3 := ho02.then (ext_alloc v2 (.cells #[.int .i64 0, .int .i64 0, .int .i64 0, .slice none 0 0, .slice none 0 0] 84))
  have hc3 := Blk.new v2 84 #[.int .i64 0, .int .i64 0, .int .i64 0, .slice none 0 0, .slice none 0 0]
  generalize (v2.alloc (.cells #[.int .i64 0, .int .i64 0, .int .i64 0, .slice none 0 0, .slice none 0 0] 84)) = v3 at *
  generalize v2.heap.size = gc at *
  have hgne : gc ≠ g := by omega
  have hgcl := hc3.lt
  have hcells : ∀ (k : Nat) (x : Int), l[k]? = some x → v3.cell? ⟨w.heap.size, k, none⟩ = some (.int .i64 x) := fun k x hx => (hw3.cell k).trans (HIX.out k x hx)
  have HCE := hid hcells
  have c30 : v3.cell? ⟨gc, 0, none⟩ = some (.int .i64 0) := hc3.cell 0
  have f30 := hc3.frozen 0
  clear hr2 hw2 hd2 ho02 hw0 hr0 hd0 ho0 hx1 ho2 hw3 hcells
  go_wp2_with fail
  go_loop [5, 7] (fun x i => ∃ (k : Nat) (t T : Int), k ≤ 8 ∧ i = .int .i64 k ∧ x = .int .i64 t ∧ 0 ≤ t ∧ t ≤ 8000 ∧ kindG (l.drop k) t k = K ∧ t + T < sumG (l.drop k) T) (fun _ i => 8 - (intOf i).toNat)
  case atStart => exact ⟨0, n, 0, Nat.zero_le _, rfl, rfl, hr.1, by omega, HKK.out.symm, by rw [List.drop_zero, HSM.out]; exact HST.out⟩
  case round =>
    obtain ⟨k, t, T, hk, rfl, rfl, ht0, ht1, hkind, hT⟩ := hrel
    have HM := hid hkind
    have HT := hid hT
    clear hkind hT
    by_cases hlt8 : k < 8
    · obtain ⟨x, hx, hdr⟩ := get_all (l := l) (k := k) (by rw [HL.out]; exact hlt8)
      have HD := hid hdr
      have hi := HCE.out k x hx
      have hx01 := HIN.out x (List.mem_of_getElem? hx)
      clear hx hdr
      by_cases htx : t < x
      · obtain rfl : K = (k : Int) := by rw [← HM.out, HD.out]; simp only [kindG, if_pos htx]
        clear HM HT HKK hr HD HST HSM HIN HIX HB HS HL HCE
        go_upto_region 9 with fail
        have hcb := hc3.set_ 0 (.int .i64 k)
        have hdb := hd3.far (p := ⟨gc, 0, none⟩) (by show g ≠ gc; omega) (.int .i64 k)
        have hrb := hr3.far (p := ⟨gc, 0, none⟩) (by show w.heap.size + 1 ≠ gc; omega) (.int .i64 k)
        have hob := ho3.farSet (gb := gc) (by omega) 0 (.int .i64 k)
        simp only [List.setIfInBounds_toArray, List.set_cons_zero] at hcb
        generalize v3.setCell ⟨gc, 0, none⟩ (.int .i64 k) = wb at *
        clear c30 f30 hi hr3 hd3 ho3 hc3 hgcl
        have hgcl := hcb.lt
        obtain ⟨yc0, yc1, yc2, yc3, yc4⟩ := zeroCells hcb
        have yf0 := hcb.frozen 0
        have yf1 := hcb.frozen 1
        have yf2 := hcb.frozen 2
        have yf3 := hcb.frozen 3
        have yf4 := hcb.frozen 4
        rcases lt8 hlt8 with rfl | rfl | rfl | rfl | rfl | rfl | rfl | rfl
        · have hc1 := hcb
          have hr1 := hrb
          have hd1 := hdb
          have ho1 := hob
          generalize wb = w1 at *
          have HC1 := hid (show chG 0 (stepI s) = (⟨0, 0, 0, bytesN ((belowI (stepI s) 4).toNat + 1) (stepI (stepI s)), []⟩, stN ((belowI (stepI s) 4).toNat + 1) (stepI (stepI s))) by simp [chG])
          have HCH := hid (show chG ((0 : Nat) : Int) (stepI s) = (⟨0, 0, 0, bytesN ((belowI (stepI s) 4).toNat + 1) (stepI (stepI s)), []⟩, stN ((belowI (stepI s) 4).toNat + 1) (stepI (stepI s))) by simp [chG])
          have hr4 := below_range (stepI s) (n := 4) (by omega)
          obtain ⟨nn, hnn⟩ : ∃ nn : Nat, nn = (belowI (stepI s) 4).toNat + 1 := ⟨_, rfl⟩
          have hB : belowI (stepI s) 4 = (nn : Int) - 1 := by omega
          have hn1 : 1 ≤ nn := by omega
          have hn4 : nn ≤ 4 := by omega
          rw [← hnn] at HCH HC1
          have HBB := hid hB
          clear hr4 hnn hB
          go_wp2_with fail
          refine (belowR_any w1 g _ 4 hd1 (by omega) (by omega)).mono ?_
          rintro r w2 ⟨rfl, hd2, hoX2⟩
          have hc2 := hc1.grown hoX2 (fun e => hgne (by injection e))
          have hr2 := hr1.grown hoX2 hg1
          have ho2 := ho1.trans hoX2
          clear yc0 yc1 yc2 yc3 yc4 yf0 yf1 yf2 yf3 yf4
          obtain ⟨yc0, yc1, yc2, yc3, yc4⟩ := zeroCells hc2
          have yf0 := hc2.frozen 0
          have yf1 := hc2.frozen 1
          have yf2 := hc2.frozen 2
          have yf3 := hc2.frozen 3
          have yf4 := hc2.frozen 4
          rw [HBB.out]
          generalize stepI (stepI s) = st1 at *
          have hgl2 := hc2.lt
          have hrl2 := hr2.lt
          have hdl2 := hd2.1.lt
          clear yc0 yc1 yc2 yc3 yc4 yf0 yf1 yf2 yf3 yf4
          go_wp2_with fail
          go_loopw [8] (fun x wr => ∃ (k : Nat) (v : Value), k ≤ nn ∧ x = .int .i64 ((nn : Int) - k) ∧ Own repByte 5 w2.heap.size wr v (bytesN k st1) ∧ RDiceAt wr g (stN k st1) ∧ Blk wr gc 84 #[.int .i64 ((0 : Nat) : Int), .int .i64 0, .int .i64 0, v, .slice none 0 0] ∧ Blk wr (w.heap.size + 1) 84 #[.int .i64 0, .int .i64 0, .int .i64 0, .slice none 0 0, .slice none 0 0] ∧ Only g w wr ∧ w2.heap.size ≤ wr.heap.size) (fun x _ => (intOf x).toNat)
          case atStart => exact ⟨0, _, Nat.zero_le _, by go_num, own_nil _ _ _ _, hd2, hc2, hr2, ho2, Nat.le_refl _⟩
          case round =>
            obtain ⟨k, v, hk, rfl, hown, hdr, hcr, hrr, hor, hszr⟩ := hrel
            by_cases hlt : k < nn
            · obtain ⟨Q, hQ⟩ : ∃ Q, Q = bytesN k st1 := ⟨_, rfl⟩
              obtain ⟨Q', hQ'⟩ : ∃ Q', Q' = bytesN (k + 1) st1 := ⟨_, rfl⟩
              have hQQ : Q ++ [byteAt st1 k] = Q' := by rw [hQ, hQ']; simp [bytesN, List.range_succ]
              have hQl : Q.length ≤ 4 := by rw [hQ]; simp [bytesN]; omega
              rw [← hQ] at hown
              have HQQ := hid hQQ
              have HQ' := hid hQ'
              have HQL := hid hQl
              obtain ⟨A, cq, rfl, _⟩ := hown.form
              have hbv := byteAt_val st1 k
              have hrv := below_range (stN k st1) (n := 256) (by omega)
              have hb := fun wa (h : RDiceAt wa g (stN k st1)) => belowR_any wa g _ 256 h (by omega) (by omega)
              have hst : stepI (stN k st1) = stN (k + 1) st1 := rfl
              rw [hst] at hb
              generalize belowI (stN k st1) 256 = y at *
              have HB := hid hb
              have hyw : IntKind.u8.wrap y = y := by have : IntKind.u8.wrap y = y % 256 := rfl; omega
              have hyb : (#[Value.int .u8 (IntKind.u8.wrap y)] : Array Value).toList = [Value.int .u8 ((byteAt st1 k).toNat : Int)] := by rw [hbv, hyw]
              have HYB := hid hyb
              clear hyb hyw
              have hdd : RDiceAt wr.drew g (stN k st1) := hdr
              obtain ⟨yc0, yc1, yc2, yc3, yc4⟩ := zeroCells hcr
              have yc3d : wr.drew.cell? ⟨gc, 3, none⟩ = some (.slice A Q.length cq) := yc3
              have hgcr := hcr.lt
              have hgn : some gc ≠ some g := fun e => hgne (by injection e)
              have hpos : decide ((0 : Int) < (nn : Int) - k) = true := decide_eq_true (by omega)
              clear hQ hQ' hQQ hQl hbv hb hst
              go_wp2_with fail
              go_region_law
                (first
                  | (go_simp; go_at_call 61; refine (HB.out _ (by with_reducible assumption)).mono ?_; rintro r w5 ⟨rfl, hd5, ho5⟩; have hc5 := (by with_reducible exact Blk.grown (Blk.drew hcr) ho5 hgn : Blk w5 gc 84 #[.int .i64 ((0 : Nat) : Int), .int .i64 0, .int .i64 0, .slice A Q.length cq, .slice none 0 0]); have hr5 := (by with_reducible exact Blk.grown (Blk.drew hrr) ho5 hg1 : Blk w5 (w.heap.size + 1) 84 #[.int .i64 0, .int .i64 0, .int .i64 0, .slice none 0 0, .slice none 0 0]); obtain ⟨yc50, yc51, yc52, yc53, yc54⟩ := zeroCells hc5; have hown5 := Own.only (Own.ext hown (Below.drew (Below.refl _ _))) ho5 hdl2; have hsz5 := ho5.size; have hgc5 := hc5.lt; have yc53a : (w5.alloc (.cells #[.int .u8 (IntKind.u8.wrap y)] 5)).cell? ⟨gc, 3, none⟩ = some (.slice A Q.length cq) := (World.cell?_alloc_lt w5 _ _ hgc5).trans yc53; dsimp only)
                  | (refine step_app1 (r := repByte) (base := w2.heap.size) (x := byteAt st1 k) (cs := #[.int .u8 (IntKind.u8.wrap y)]) _ _ rfl rfl Try.underlying49 info_byte (by decide) hown5 rfl rfl rfl HYB.out (by have := HQL.out; omega) (by have := HQL.out; simp only [maxLen]; omega) (Nat.le_trans hszr hsz5) ?_; intro v6 w6 hown6 hg6; rw [HQQ.out] at hown6; obtain ⟨A6, cq6, rfl, _⟩ := hown6.form; have hb6 : Below w2.heap.size w5 w6 := Below.grown (Below.refl _ _) hg6 (Nat.le_trans hszr hsz5) (fun k hk => (hown5.lt k hk).1); have hc6 := (by exact (hb6.block gc hgl2).trans hc5 : Blk w6 gc 84 #[.int .i64 ((0 : Nat) : Int), .int .i64 0, .int .i64 0, .slice A Q.length cq, .slice none 0 0]); obtain ⟨yc60, yc61, yc62, yc63, yc64⟩ := zeroCells hc6; have yf6 := hc6.frozen 3))
              all_goals
                go_wp2
                go_roundw
                case rel =>
                  have hd6 : RDiceAt w6 g (stN (k + 1) st1) := ⟨(hb6.block g hdl2).trans hd5.1, hd5.2⟩
                  have hr6 := (by exact (hb6.block _ hrl2).trans hr5 : Blk w6 (w.heap.size + 1) 84 #[.int .i64 0, .int .i64 0, .int .i64 0, .slice none 0 0, .slice none 0 0])
                  have ho6 : Only g w w6 := Only.below ((hor.then (Below.drew (Below.refl _ _))).trans ho5) hb6 (by omega)
                  exact ⟨k + 1, _, by omega, by congr 1; push_cast; omega, by rw [← HQ'.out]; exact hown6.only (Only.set_ (Only.refl gc _) 3 _) hgl2, hd6.far (by show g ≠ gc; omega) _, hc6.set_ 3 _, hr6.far (by show w.heap.size + 1 ≠ gc; omega) _, ho6.farSet (by omega) 3 _, Nat.le_trans (Nat.le_trans hszr (Nat.le_trans hsz5 hb6.size)) (by simp [World.setCell])⟩
                case measure => simp [intOf]; omega
            · obtain rfl : k = nn := by omega
              obtain ⟨Q, hQ⟩ : ∃ Q, Q = bytesN k st1 := ⟨_, rfl⟩
              rw [← hQ] at hown
              rw [← hQ] at HCH HC1
              have HQ := hid hQ
              obtain ⟨A, cq, rfl, _⟩ := hown.form
              obtain ⟨yc0, yc1, yc2, yc3, yc4⟩ := zeroCells hcr
              obtain ⟨zc0, zc1, zc2, zc3, zc4, zf0, zf1, zf2, zf3, zf4⟩ := zcells hrr
              clear hQ
              go_wp2
              first | rw [HCH.out] | rw [HC1.out]
              obtain ⟨p1, p2, p3⟩ := put5 hrr (by omega) hor
              refine bodyPost_ret (results_cell_row rfl _ _ (w.heap.size + 1) _ _ (0, 0) _ rfl p1 Try.underlying84 rfl (by kernel_rfl)) rfl ⟨_, rfl, ⟨_, _, rfl, hown.own.keep fun b hb => ⟨⟨by have := hb.1; omega, by have := hb.2; simpa [World.setCell] using this⟩, fun o => ?_⟩, isSlice_nil _ _ _⟩, ⟨p2 g _ _ (by omega) hdr.1, hdr.2⟩, p3⟩
              have hb1 := hb.1
              rw [World.cell?_setCell_other, World.cell?_setCell_other, World.cell?_setCell_other, World.cell?_setCell_other, World.cell?_setCell_other]
              all_goals (intro e; simp only [Addr.mk.injEq] at e; omega)
        · have hc1 := hcb
          have hr1 := hrb
          have hd1 := hdb
          have ho1 := hob
          generalize wb = w1 at *
          have HC1 := hid (show chG 1 (stepI s) = (⟨1, 0, 0, [], []⟩, stepI s) by simp [chG])
          have HCH := hid (show chG ((1 : Nat) : Int) (stepI s) = (⟨1, 0, 0, [], []⟩, stepI s) by simp [chG])
          obtain ⟨zc0, zc1, zc2, zc3, zc4, zf0, zf1, zf2, zf3, zf4⟩ := zcells hr1
          go_wp2
          first | rw [HCH.out] | rw [HC1.out]
          obtain ⟨p1, p2, p3⟩ := put5 hr1 (by omega) ho1
          exact bodyPost_ret (results_cell_row rfl _ _ (w.heap.size + 1) _ _ (0, 0) _ rfl p1 Try.underlying84 rfl (by kernel_rfl)) rfl ⟨_, rfl, ⟨_, _, rfl, isSlice_nil _ _ _, isSlice_nil _ _ _⟩, ⟨p2 g _ _ (by omega) hd1.1, hd1.2⟩, p3⟩
        · have hc1 := hcb
          have hr1 := hrb
          have hd1 := hdb
          have ho1 := hob
          generalize wb = w1 at *
          have HC1 := hid (show chG 2 (stepI s) = (⟨2, belowI (stepI s) 2, 0, [], []⟩, stepI (stepI s)) by simp [chG])
          have HCH := hid (show chG ((2 : Nat) : Int) (stepI s) = (⟨2, belowI (stepI s) 2, 0, [], []⟩, stepI (stepI s)) by simp [chG])
          generalize hx1 : belowI (stepI s) 2 = x1 at HCH HC1
          go_wp2_with fail
          refine (belowR_any w1 g _ 2 hd1 (by omega) (by omega)).mono ?_
          rintro r w2 ⟨rfl, hd2, hoX2⟩
          have hc2 := hc1.grown hoX2 (fun e => hgne (by injection e))
          have hr2 := hr1.grown hoX2 hg1
          have ho2 := ho1.trans hoX2
          clear yc0 yc1 yc2 yc3 yc4 yf0 yf1 yf2 yf3 yf4
          obtain ⟨yc0, yc1, yc2, yc3, yc4⟩ := zeroCells hc2
          have yf0 := hc2.frozen 0
          have yf1 := hc2.frozen 1
          have yf2 := hc2.frozen 2
          have yf3 := hc2.frozen 3
          have yf4 := hc2.frozen 4
          rw [hx1]
          clear hx1
          obtain ⟨zc0, zc1, zc2, zc3, zc4, zf0, zf1, zf2, zf3, zf4⟩ := zcells hr2
          have hc3 := hc2.set_ 1 (.int .i64 x1)
          simp only [List.setIfInBounds_toArray, List.set_cons_zero, List.set_cons_succ] at hc3
          have hr3 := hr2.far (p := ⟨gc, 1, none⟩) (by show w.heap.size + 1 ≠ gc; omega) (.int .i64 x1)
          have hd3 := hd2.far (p := ⟨gc, 1, none⟩) (by show g ≠ gc; omega) (.int .i64 x1)
          have ho3 := ho2.farSet (gb := gc) (by omega) 1 (.int .i64 x1)
          go_wp2
          first | rw [HCH.out] | rw [HC1.out]
          obtain ⟨p1, p2, p3⟩ := put5 hr3 (by omega) ho3
          exact bodyPost_ret (results_cell_row rfl _ _ (w.heap.size + 1) _ _ (0, 0) _ rfl p1 Try.underlying84 rfl (by kernel_rfl)) rfl ⟨_, rfl, ⟨_, _, rfl, isSlice_nil _ _ _, isSlice_nil _ _ _⟩, ⟨p2 g _ _ (by omega) hd3.1, hd3.2⟩, p3⟩
        · have hc1 := hcb
          have hr1 := hrb
          have hd1 := hdb
          have ho1 := hob
          generalize wb = w1 at *
          have HC1 := hid (show chG 3 (stepI s) = (⟨3, belowI (stepI s) 2, belowI (stepI (stepI s)) 4, [], []⟩, stepI (stepI (stepI s))) by simp [chG])
          have HCH := hid (show chG ((3 : Nat) : Int) (stepI s) = (⟨3, belowI (stepI s) 2, belowI (stepI (stepI s)) 4, [], []⟩, stepI (stepI (stepI s))) by simp [chG])
          generalize hx1 : belowI (stepI s) 2 = x1 at HCH HC1
          generalize hx2 : belowI (stepI (stepI s)) 4 = x2 at HCH HC1
          go_wp2_with fail
          refine (belowR_any w1 g _ 2 hd1 (by omega) (by omega)).mono ?_
          rintro r w2 ⟨rfl, hd2, hoX2⟩
          have hc2 := hc1.grown hoX2 (fun e => hgne (by injection e))
          have hr2 := hr1.grown hoX2 hg1
          have ho2 := ho1.trans hoX2
          clear yc0 yc1 yc2 yc3 yc4 yf0 yf1 yf2 yf3 yf4
          obtain ⟨yc0, yc1, yc2, yc3, yc4⟩ := zeroCells hc2
          have yf0 := hc2.frozen 0
          have yf1 := hc2.frozen 1
          have yf2 := hc2.frozen 2
          have yf3 := hc2.frozen 3
          have yf4 := hc2.frozen 4
          rw [hx1]
          clear hx1
          have hc3 := hc2.set_ 1 (.int .i64 x1)
          simp only [List.setIfInBounds_toArray, List.set_cons_zero, List.set_cons_succ] at hc3
          have hr3 := hr2.far (p := ⟨gc, 1, none⟩) (by show w.heap.size + 1 ≠ gc; omega) (.int .i64 x1)
          have hd3 := hd2.far (p := ⟨gc, 1, none⟩) (by show g ≠ gc; omega) (.int .i64 x1)
          have ho3 := ho2.farSet (gb := gc) (by omega) 1 (.int .i64 x1)
          go_wp2_with fail
          generalize w2.setCell ⟨gc, 1, none⟩ (.int .i64 x1) = w3 at *
          refine (belowR_any w3 g _ 4 hd3 (by omega) (by omega)).mono ?_
          rintro r w4 ⟨rfl, hd4, hoX4⟩
          have hc4 := hc3.grown hoX4 (fun e => hgne (by injection e))
          have hr4 := hr3.grown hoX4 hg1
          have ho4 := ho3.trans hoX4
          clear yc0 yc1 yc2 yc3 yc4 yf0 yf1 yf2 yf3 yf4
          obtain ⟨yc0, yc1, yc2, yc3, yc4⟩ := zeroCells hc4
          have yf0 := hc4.frozen 0
          have yf1 := hc4.frozen 1
          have yf2 := hc4.frozen 2
          have yf3 := hc4.frozen 3
          have yf4 := hc4.frozen 4
          rw [hx2]
          clear hx2
          obtain ⟨zc0, zc1, zc2, zc3, zc4, zf0, zf1, zf2, zf3, zf4⟩ := zcells hr4
          have hc5 := hc4.set_ 2 (.int .i64 x2)
          simp only [List.setIfInBounds_toArray, List.set_cons_zero, List.set_cons_succ] at hc5
          have hr5 := hr4.far (p := ⟨gc, 2, none⟩) (by show w.heap.size + 1 ≠ gc; omega) (.int .i64 x2)
          have hd5 := hd4.far (p := ⟨gc, 2, none⟩) (by show g ≠ gc; omega) (.int .i64 x2)
          have ho5 := ho4.farSet (gb := gc) (by omega) 2 (.int .i64 x2)
          go_wp2
          first | rw [HCH.out] | rw [HC1.out]
          obtain ⟨p1, p2, p3⟩ := put5 hr5 (by omega) ho5
          exact bodyPost_ret (results_cell_row rfl _ _ (w.heap.size + 1) _ _ (0, 0) _ rfl p1 Try.underlying84 rfl (by kernel_rfl)) rfl ⟨_, rfl, ⟨_, _, rfl, isSlice_nil _ _ _, isSlice_nil _ _ _⟩, ⟨p2 g _ _ (by omega) hd5.1, hd5.2⟩, p3⟩
        · have hc1 := hcb
          have hr1 := hrb
          have hd1 := hdb
          have ho1 := hob
          generalize wb = w1 at *
          have HC1 := hid (show chG 4 (stepI s) = (⟨4, belowI (stepI s) 2, belowI (stepI (stepI s)) 4, [], []⟩, stepI (stepI (stepI s))) by simp [chG])
          have HCH := hid (show chG ((4 : Nat) : Int) (stepI s) = (⟨4, belowI (stepI s) 2, belowI (stepI (stepI s)) 4, [], []⟩, stepI (stepI (stepI s))) by simp [chG])
          generalize hx1 : belowI (stepI s) 2 = x1 at HCH HC1
          generalize hx2 : belowI (stepI (stepI s)) 4 = x2 at HCH HC1
          go_wp2_with fail
          refine (belowR_any w1 g _ 2 hd1 (by omega) (by omega)).mono ?_
          rintro r w2 ⟨rfl, hd2, hoX2⟩
          have hc2 := hc1.grown hoX2 (fun e => hgne (by injection e))
          have hr2 := hr1.grown hoX2 hg1
          have ho2 := ho1.trans hoX2
          clear yc0 yc1 yc2 yc3 yc4 yf0 yf1 yf2 yf3 yf4
          obtain ⟨yc0, yc1, yc2, yc3, yc4⟩ := zeroCells hc2
          have yf0 := hc2.frozen 0
          have yf1 := hc2.frozen 1
          have yf2 := hc2.frozen 2
          have yf3 := hc2.frozen 3
          have yf4 := hc2.frozen 4
          rw [hx1]
          clear hx1
          have hc3 := hc2.set_ 1 (.int .i64 x1)
          simp only [List.setIfInBounds_toArray, List.set_cons_zero, List.set_cons_succ] at hc3
          have hr3 := hr2.far (p := ⟨gc, 1, none⟩) (by show w.heap.size + 1 ≠ gc; omega) (.int .i64 x1)
          have hd3 := hd2.far (p := ⟨gc, 1, none⟩) (by show g ≠ gc; omega) (.int .i64 x1)
          have ho3 := ho2.farSet (gb := gc) (by omega) 1 (.int .i64 x1)
          go_wp2_with fail
          generalize w2.setCell ⟨gc, 1, none⟩ (.int .i64 x1) = w3 at *
          refine (belowR_any w3 g _ 4 hd3 (by omega) (by omega)).mono ?_
          rintro r w4 ⟨rfl, hd4, hoX4⟩
          have hc4 := hc3.grown hoX4 (fun e => hgne (by injection e))
          have hr4 := hr3.grown hoX4 hg1
          have ho4 := ho3.trans hoX4
          clear yc0 yc1 yc2 yc3 yc4 yf0 yf1 yf2 yf3 yf4
          obtain ⟨yc0, yc1, yc2, yc3, yc4⟩ := zeroCells hc4
          have yf0 := hc4.frozen 0
          have yf1 := hc4.frozen 1
          have yf2 := hc4.frozen 2
          have yf3 := hc4.frozen 3
          have yf4 := hc4.frozen 4
          rw [hx2]
          clear hx2
          obtain ⟨zc0, zc1, zc2, zc3, zc4, zf0, zf1, zf2, zf3, zf4⟩ := zcells hr4
          have hc5 := hc4.set_ 2 (.int .i64 x2)
          simp only [List.setIfInBounds_toArray, List.set_cons_zero, List.set_cons_succ] at hc5
          have hr5 := hr4.far (p := ⟨gc, 2, none⟩) (by show w.heap.size + 1 ≠ gc; omega) (.int .i64 x2)
          have hd5 := hd4.far (p := ⟨gc, 2, none⟩) (by show g ≠ gc; omega) (.int .i64 x2)
          have ho5 := ho4.farSet (gb := gc) (by omega) 2 (.int .i64 x2)
          go_wp2
          first | rw [HCH.out] | rw [HC1.out]
          obtain ⟨p1, p2, p3⟩ := put5 hr5 (by omega) ho5
          exact bodyPost_ret (results_cell_row rfl _ _ (w.heap.size + 1) _ _ (0, 0) _ rfl p1 Try.underlying84 rfl (by kernel_rfl)) rfl ⟨_, rfl, ⟨_, _, rfl, isSlice_nil _ _ _, isSlice_nil _ _ _⟩, ⟨p2 g _ _ (by omega) hd5.1, hd5.2⟩, p3⟩
        · have hc1 := hcb
          have hr1 := hrb
          have hd1 := hdb
          have ho1 := hob
          generalize wb = w1 at *
          have HC1 := hid (show chG 5 (stepI s) = (⟨5, belowI (stepI s) 2, belowI (stepI (stepI s)) 4, [], [edG (stepI (stepI (stepI s)))]⟩, stepI (stepI (stepI (stepI (stepI (stepI s)))))) by simp [chG])
          have HCH := hid (show chG ((5 : Nat) : Int) (stepI s) = (⟨5, belowI (stepI s) 2, belowI (stepI (stepI s)) 4, [], [edG (stepI (stepI (stepI s)))]⟩, stepI (stepI (stepI (stepI (stepI (stepI s)))))) by simp [chG])
          generalize hx1 : belowI (stepI s) 2 = x1 at HCH HC1
          generalize hx2 : belowI (stepI (stepI s)) 4 = x2 at HCH HC1
          go_wp2_with fail
          refine (belowR_any w1 g _ 2 hd1 (by omega) (by omega)).mono ?_
          rintro r w2 ⟨rfl, hd2, hoX2⟩
          have hc2 := hc1.grown hoX2 (fun e => hgne (by injection e))
          have hr2 := hr1.grown hoX2 hg1
          have ho2 := ho1.trans hoX2
          clear yc0 yc1 yc2 yc3 yc4 yf0 yf1 yf2 yf3 yf4
          obtain ⟨yc0, yc1, yc2, yc3, yc4⟩ := zeroCells hc2
          have yf0 := hc2.frozen 0
          have yf1 := hc2.frozen 1
          have yf2 := hc2.frozen 2
          have yf3 := hc2.frozen 3
          have yf4 := hc2.frozen 4
          rw [hx1]
          clear hx1
          have hc3 := hc2.set_ 1 (.int .i64 x1)
          simp only [List.setIfInBounds_toArray, List.set_cons_zero, List.set_cons_succ] at hc3
          have hr3 := hr2.far (p := ⟨gc, 1, none⟩) (by show w.heap.size + 1 ≠ gc; omega) (.int .i64 x1)
          have hd3 := hd2.far (p := ⟨gc, 1, none⟩) (by show g ≠ gc; omega) (.int .i64 x1)
          have ho3 := ho2.farSet (gb := gc) (by omega) 1 (.int .i64 x1)
          go_wp2_with fail
          generalize w2.setCell ⟨gc, 1, none⟩ (.int .i64 x1) = w3 at *
          refine (belowR_any w3 g _ 4 hd3 (by omega) (by omega)).mono ?_
          rintro r w4 ⟨rfl, hd4, hoX4⟩
          have hc4 := hc3.grown hoX4 (fun e => hgne (by injection e))
          have hr4 := hr3.grown hoX4 hg1
          have ho4 := ho3.trans hoX4
          clear yc0 yc1 yc2 yc3 yc4 yf0 yf1 yf2 yf3 yf4
          obtain ⟨yc0, yc1, yc2, yc3, yc4⟩ := zeroCells hc4
          have yf0 := hc4.frozen 0
          have yf1 := hc4.frozen 1
          have yf2 := hc4.frozen 2
          have yf3 := hc4.frozen 3
          have yf4 := hc4.frozen 4
          rw [hx2]
          clear hx2
          have hc5 := hc4.set_ 2 (.int .i64 x2)
          simp only [List.setIfInBounds_toArray, List.set_cons_zero, List.set_cons_succ] at hc5
          have hr5 := hr4.far (p := ⟨gc, 2, none⟩) (by show w.heap.size + 1 ≠ gc; omega) (.int .i64 x2)
          have hd5 := hd4.far (p := ⟨gc, 2, none⟩) (by show g ≠ gc; omega) (.int .i64 x2)
          have ho5 := ho4.farSet (gb := gc) (by omega) 2 (.int .i64 x2)
          go_upto_region 26 with fail
          have hsz : (w4.setCell ⟨gc, 2, none⟩ (.int .i64 x2)).heap.size = w4.heap.size := by simp [World.setCell]
          generalize w4.setCell ⟨gc, 2, none⟩ (.int .i64 x2) = w5 at *
          have hc6 := hc5.alloc (.cells #[.int .i64 0, .int .i64 0, .int .u8 0] 134)
          have hr6 := hr5.alloc (.cells #[.int .i64 0, .int .i64 0, .int .u8 0] 134)
          have hd6 := hd5.ext (ext_alloc w5 (.cells #[.int .i64 0, .int .i64 0, .int .u8 0] 134))
          have ho6 := ho5.then (ext_alloc w5 (.cells #[.int .i64 0, .int .i64 0, .int .u8 0] 134))
          have he6 := Blk.new w5 134 #[.int .i64 0, .int .i64 0, .int .u8 0]
          have hgl5 := hc5.lt
          have hgd5 := hd5.1.lt
          generalize w5.alloc (.cells #[.int .i64 0, .int .i64 0, .int .u8 0] 134) = w6 at *
          rw [hsz] at he6 hgl5 hgd5
          clear hsz
          generalize w4.heap.size = ge at *
          have hege : ge ≠ g := by omega
          clear yc0 yc1 yc2 yc3 yc4 yf0 yf1 yf2 yf3 yf4
          obtain ⟨ec0, ec1, ec2, ef0, ef1, ef2⟩ := edCells he6
          have hbv : ((edG (stepI (stepI (stepI s)))).b.toNat : Int) = belowI (stepI (stepI (stepI (stepI (stepI s))))) 256 := byteAt_val _ 0
          have hrv := below_range (stepI (stepI (stepI (stepI (stepI s))))) (n := 256) (by omega)
          have hk4 : (edG (stepI (stepI (stepI s)))).kind = belowI (stepI (stepI (stepI s))) 4 := rfl
          have hk5 : (edG (stepI (stepI (stepI s)))).at_ = belowI (stepI (stepI (stepI (stepI s)))) 12 := rfl
          generalize hy1 : belowI (stepI (stepI (stepI s))) 4 = y1 at hk4
          generalize hy2 : belowI (stepI (stepI (stepI (stepI s)))) 12 = y2 at hk5
          generalize hy3 : belowI (stepI (stepI (stepI (stepI (stepI s))))) 256 = y3 at hbv hrv
          generalize hed : edG (stepI (stepI (stepI s))) = ed at *
          clear hed
          have HK4 := hid hk4
          have HK5 := hid hk5
          have HBV := hid hbv
          clear hk4 hk5 hbv
          go_wp2_with fail
          refine (belowR_any w6 g _ 4 hd6 (by omega) (by omega)).mono ?_
          rintro r w7 ⟨rfl, hd7, hoX7⟩
          have hc7 := hc6.grown hoX7 (fun e => hgne (by injection e))
          have hr7 := hr6.grown hoX7 hg1
          have he7 := he6.grown hoX7 (fun e => hege (by injection e))
          have ho7 := ho6.trans hoX7
          clear ec0 ec1 ec2 ef0 ef1 ef2
          obtain ⟨ec0, ec1, ec2, ef0, ef1, ef2⟩ := edCells he7
          rw [hy1]
          clear hy1
          have he8 := he7.set_ 0 (.int .i64 y1)
          simp only [List.setIfInBounds_toArray, List.set_cons_zero] at he8
          have hc8 := hc7.far (p := ⟨ge, 0, none⟩) (by show gc ≠ ge; omega) (.int .i64 y1)
          have hr8 := hr7.far (p := ⟨ge, 0, none⟩) (by show w.heap.size + 1 ≠ ge; omega) (.int .i64 y1)
          have hd8 := hd7.far (p := ⟨ge, 0, none⟩) (by show g ≠ ge; omega) (.int .i64 y1)
          have ho8 := ho7.farSet (gb := ge) (by omega) 0 (.int .i64 y1)
          go_wp2_with fail
          generalize w7.setCell ⟨ge, 0, none⟩ (.int .i64 y1) = w8 at *
          refine (belowR_any w8 g _ 12 hd8 (by omega) (by omega)).mono ?_
          rintro r w9 ⟨rfl, hd9, hoX9⟩
          have hc9 := hc8.grown hoX9 (fun e => hgne (by injection e))
          have hr9 := hr8.grown hoX9 hg1
          have he9 := he8.grown hoX9 (fun e => hege (by injection e))
          have ho9 := ho8.trans hoX9
          clear ec0 ec1 ec2 ef0 ef1 ef2
          obtain ⟨ec0, ec1, ec2, ef0, ef1, ef2⟩ := edCells he9
          rw [hy2]
          clear hy2
          have he10 := he9.set_ 1 (.int .i64 y2)
          simp only [List.setIfInBounds_toArray, List.set_cons_zero, List.set_cons_succ] at he10
          have hc10 := hc9.far (p := ⟨ge, 1, none⟩) (by show gc ≠ ge; omega) (.int .i64 y2)
          have hr10 := hr9.far (p := ⟨ge, 1, none⟩) (by show w.heap.size + 1 ≠ ge; omega) (.int .i64 y2)
          have hd10 := hd9.far (p := ⟨ge, 1, none⟩) (by show g ≠ ge; omega) (.int .i64 y2)
          have ho10 := ho9.farSet (gb := ge) (by omega) 1 (.int .i64 y2)
          go_wp2_with fail
          generalize w9.setCell ⟨ge, 1, none⟩ (.int .i64 y2) = w10 at *
          refine (belowR_any w10 g _ 256 hd10 (by omega) (by omega)).mono ?_
          rintro r w11 ⟨rfl, hd11, hoX11⟩
          have hc11 := hc10.grown hoX11 (fun e => hgne (by injection e))
          have hr11 := hr10.grown hoX11 hg1
          have he11 := he10.grown hoX11 (fun e => hege (by injection e))
          have ho11 := ho10.trans hoX11
          clear ec0 ec1 ec2 ef0 ef1 ef2
          obtain ⟨ec0, ec1, ec2, ef0, ef1, ef2⟩ := edCells he11
          rw [hy3]
          clear hy3
          have he12 := he11.set_ 2 (.int .u8 y3)
          simp only [List.setIfInBounds_toArray, List.set_cons_zero, List.set_cons_succ] at he12
          have hc12 := hc11.far (p := ⟨ge, 2, none⟩) (by show gc ≠ ge; omega) (.int .u8 y3)
          have hr12 := hr11.far (p := ⟨ge, 2, none⟩) (by show w.heap.size + 1 ≠ ge; omega) (.int .u8 y3)
          have hd12 := hd11.far (p := ⟨ge, 2, none⟩) (by show g ≠ ge; omega) (.int .u8 y3)
          have ho12 := ho11.farSet (gb := ge) (by omega) 2 (.int .u8 y3)
          go_upto_region 29 with fail
          generalize w11.setCell ⟨ge, 2, none⟩ (.int .u8 y3) = w12 at *
          clear ec0 ec1 ec2 ef0 ef1 ef2
          obtain ⟨ec0, ec1, ec2, ef0, ef1, ef2⟩ := edCells he12
          obtain ⟨yc0, yc1, yc2, yc3, yc4⟩ := zeroCells hc12
          have yf4 := hc12.frozen 4
          have hgl12 := hc12.lt
          have hsz12 := ho12.size
          obtain rfl : y1 = ed.kind := HK4.out.symm
          obtain rfl : y2 = ed.at_ := HK5.out.symm
          obtain rfl : y3 = (ed.b.toNat : Int) := HBV.out.symm
          go_upto_region 32 with fail
          have hr13 : Blk ((w12.setCell ⟨gc, 4, none⟩ (.slice (some ⟨w12.heap.size, 0, none⟩) 1 1)).alloc (.cells #[.int .i64 ed.kind, .int .i64 ed.at_, .int .u8 (ed.b.toNat : Int)] 134)) (w.heap.size + 1) 84 #[.int .i64 0, .int .i64 0, .int .i64 0, .slice none 0 0, .slice none 0 0] := (hr12.far (p := ⟨gc, 4, none⟩) (by show w.heap.size + 1 ≠ gc; omega) _).alloc _
          have hc13 : Blk ((w12.setCell ⟨gc, 4, none⟩ (.slice (some ⟨w12.heap.size, 0, none⟩) 1 1)).alloc (.cells #[.int .i64 ed.kind, .int .i64 ed.at_, .int .u8 (ed.b.toNat : Int)] 134)) gc 84 #[.int .i64 ((5 : Nat) : Int), .int .i64 x1, .int .i64 x2, .slice none 0 0, (.slice (some ⟨w12.heap.size, 0, none⟩) 1 1)] := Blk.alloc (hc12.set_ 4 _) _
          have hd13 : RDiceAt ((w12.setCell ⟨gc, 4, none⟩ (.slice (some ⟨w12.heap.size, 0, none⟩) 1 1)).alloc (.cells #[.int .i64 ed.kind, .int .i64 ed.at_, .int .u8 (ed.b.toNat : Int)] 134)) g (stepI (stepI (stepI (stepI (stepI (stepI s)))))) := ⟨(hd12.1.far (p := ⟨gc, 4, none⟩) (by show g ≠ gc; omega) _).alloc _, hd12.2⟩
          have ho13 : Only g w ((w12.setCell ⟨gc, 4, none⟩ (.slice (some ⟨w12.heap.size, 0, none⟩) 1 1)).alloc (.cells #[.int .i64 ed.kind, .int .i64 ed.at_, .int .u8 (ed.b.toNat : Int)] 134)) := (ho12.farSet (gb := gc) (by omega) 4 _).then (ext_alloc _ _)
          have hl13 : IsSlice repEd ((w12.setCell ⟨gc, 4, none⟩ (.slice (some ⟨w12.heap.size, 0, none⟩) 1 1)).alloc (.cells #[.int .i64 ed.kind, .int .i64 ed.at_, .int .u8 (ed.b.toNat : Int)] 134)) (fresh w12 ((w12.setCell ⟨gc, 4, none⟩ (.slice (some ⟨w12.heap.size, 0, none⟩) 1 1)).alloc (.cells #[.int .i64 ed.kind, .int .i64 ed.at_, .int .u8 (ed.b.toNat : Int)] 134))) (.slice (some ⟨w12.heap.size, 0, none⟩) 1 1) [ed] := lit_ed (by simp [World.setCell]) (by simp [World.setCell])
          generalize ((w12.setCell ⟨gc, 4, none⟩ (.slice (some ⟨w12.heap.size, 0, none⟩) 1 1)).alloc (.cells #[.int .i64 ed.kind, .int .i64 ed.at_, .int .u8 (ed.b.toNat : Int)] 134)) = w13 at *
          clear yc0 yc1 yc2 yc3 yc4 yf4 ec0 ec1 ec2 ef0 ef1 ef2
          obtain ⟨zc0, zc1, zc2, zc3, zc4, zf0, zf1, zf2, zf3, zf4⟩ := zcells hr13
          obtain ⟨yc0, yc1, yc2, yc3, yc4⟩ := zeroCells hc13
          go_wp2
          first | rw [HCH.out] | rw [HC1.out]
          obtain ⟨p1, p2, p3⟩ := put5 hr13 (by omega) ho13
          refine bodyPost_ret (results_cell_row rfl _ _ (w.heap.size + 1) _ _ (0, 0) _ rfl p1 Try.underlying84 rfl (by kernel_rfl)) rfl ⟨_, rfl, ⟨_, _, rfl, isSlice_nil _ _ _, hl13.keep fun b hb => ⟨⟨by have := hb.1; omega, by have := hb.2; simpa [World.setCell] using this⟩, fun o => ?_⟩⟩, ⟨p2 g _ _ (by omega) hd13.1, hd13.2⟩, p3⟩
          have hb1 := hb.1
          rw [World.cell?_setCell_other, World.cell?_setCell_other, World.cell?_setCell_other, World.cell?_setCell_other, World.cell?_setCell_other]
          all_goals (intro e; simp only [Addr.mk.injEq] at e; omega)
        · have hc1 := hcb
          have hr1 := hrb
          have hd1 := hdb
          have ho1 := hob
          generalize wb = w1 at *
          have HC1 := hid (show chG 6 (stepI s) = (⟨6, belowI (stepI s) 2, 0, [], []⟩, stepI (stepI s)) by simp [chG])
          have HCH := hid (show chG ((6 : Nat) : Int) (stepI s) = (⟨6, belowI (stepI s) 2, 0, [], []⟩, stepI (stepI s)) by simp [chG])
          generalize hx1 : belowI (stepI s) 2 = x1 at HCH HC1
          go_wp2_with fail
          refine (belowR_any w1 g _ 2 hd1 (by omega) (by omega)).mono ?_
          rintro r w2 ⟨rfl, hd2, hoX2⟩
          have hc2 := hc1.grown hoX2 (fun e => hgne (by injection e))
          have hr2 := hr1.grown hoX2 hg1
          have ho2 := ho1.trans hoX2
          clear yc0 yc1 yc2 yc3 yc4 yf0 yf1 yf2 yf3 yf4
          obtain ⟨yc0, yc1, yc2, yc3, yc4⟩ := zeroCells hc2
          have yf0 := hc2.frozen 0
          have yf1 := hc2.frozen 1
          have yf2 := hc2.frozen 2
          have yf3 := hc2.frozen 3
          have yf4 := hc2.frozen 4
          rw [hx1]
          clear hx1
          obtain ⟨zc0, zc1, zc2, zc3, zc4, zf0, zf1, zf2, zf3, zf4⟩ := zcells hr2
          have hc3 := hc2.set_ 1 (.int .i64 x1)
          simp only [List.setIfInBounds_toArray, List.set_cons_zero, List.set_cons_succ] at hc3
          have hr3 := hr2.far (p := ⟨gc, 1, none⟩) (by show w.heap.size + 1 ≠ gc; omega) (.int .i64 x1)
          have hd3 := hd2.far (p := ⟨gc, 1, none⟩) (by show g ≠ gc; omega) (.int .i64 x1)
          have ho3 := ho2.farSet (gb := gc) (by omega) 1 (.int .i64 x1)
          go_wp2
          first | rw [HCH.out] | rw [HC1.out]
          obtain ⟨p1, p2, p3⟩ := put5 hr3 (by omega) ho3
          exact bodyPost_ret (results_cell_row rfl _ _ (w.heap.size + 1) _ _ (0, 0) _ rfl p1 Try.underlying84 rfl (by kernel_rfl)) rfl ⟨_, rfl, ⟨_, _, rfl, isSlice_nil _ _ _, isSlice_nil _ _ _⟩, ⟨p2 g _ _ (by omega) hd3.1, hd3.2⟩, p3⟩
        · have hc1 := hcb
          have hr1 := hrb
          have hd1 := hdb
          have ho1 := hob
          generalize wb = w1 at *
          have HC1 := hid (show chG 7 (stepI s) = (⟨7, 0, 1, [], []⟩, stepI s) by simp [chG])
          have HCH := hid (show chG ((7 : Nat) : Int) (stepI s) = (⟨7, 0, 1, [], []⟩, stepI s) by simp [chG])
          obtain ⟨zc0, zc1, zc2, zc3, zc4, zf0, zf1, zf2, zf3, zf4⟩ := zcells hr1
          have hc3 := hc1.set_ 2 (.int .i64 1)
          simp only [List.setIfInBounds_toArray, List.set_cons_zero, List.set_cons_succ] at hc3
          have hr3 := hr1.far (p := ⟨gc, 2, none⟩) (by show w.heap.size + 1 ≠ gc; omega) (.int .i64 1)
          have hd3 := hd1.far (p := ⟨gc, 2, none⟩) (by show g ≠ gc; omega) (.int .i64 1)
          have ho3 := ho1.farSet (gb := gc) (by omega) 2 (.int .i64 1)
          go_wp2
          first | rw [HCH.out] | rw [HC1.out]
          obtain ⟨p1, p2, p3⟩ := put5 hr3 (by omega) ho3
          exact bodyPost_ret (results_cell_row rfl _ _ (w.heap.size + 1) _ _ (0, 0) _ rfl p1 Try.underlying84 rfl (by kernel_rfl)) rfl ⟨_, rfl, ⟨_, _, rfl, isSlice_nil _ _ _, isSlice_nil _ _ _⟩, ⟨p2 g _ _ (by omega) hd3.1, hd3.2⟩, p3⟩
      · have hsx : kindG (x :: l.drop (k + 1)) t k = kindG (l.drop (k + 1)) (t - x) (k + 1) := by simp only [kindG, if_neg htx]
        have hsT : t - x + (T + x) < sumG (l.drop (k + 1)) (T + x) := by
          have := HT.out
          rw [HD.out, sum_good (by omega)] at this
          omega
        have HSX := hid hsx
        have HTX := hid hsT
        clear hsx hsT
        go_wp2
        go_round
        case rel => exact ⟨k + 1, t - x, T + x, by omega, by go_num, by go_num, by omega, by omega, by rw [← HM.out, HD.out, HSX.out]; simp, HTX.out⟩
        case measure => simp [intOf]; omega
    · obtain rfl : k = 8 := by omega
      exfalso
      have := HT.out
      rw [List.drop_of_length_le (by rw [HL.out]; exact Nat.le_refl _)] at this
      simp only [sumG] at this
      omega
end
end Go.Proofs.Ytheopadakjojkaa
