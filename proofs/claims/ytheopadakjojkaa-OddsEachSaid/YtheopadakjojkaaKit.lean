/- Words of this seat's proofs: what a slice in memory reads as, what a call's own row holds, and the law of append over these words. No program in sight. -/
import Derived.WalkKit
import Derived.WalkLawsBesides
import Derived.WalkSpells
import Derived.ProofKit
import Derived.OpenShut
import Derived.Handy
import Derived.Deep.Slices
import Derived.Deep.Fields
import Derived.Deep.AppendLies
import Derived.Deep.Draws
import Derived.Deep.QuietTactic
import Derived.BigQuiet
import Derived.Maps.AppendAt
namespace Go.Proofs.Ytheopadakjojkaa
open Go.RowKit

theorem hid {p : Prop} (h : p) : Hid p := h

theorem take_succ_of {α : Type} {l : List α} {k : Nat} {x : α} (h : l[k]? = some x) : l.take (k + 1) = l.take k ++ [x] := by
  rw [List.take_add_one, h]; rfl
theorem lt_of_get {α : Type} {l : List α} {k : Nat} {x : α} (h : l[k]? = some x) : k < l.length := (List.getElem?_eq_some_iff.1 h).1

theorem ret_bool {a b : Bool} (h : a = b) : Ending.returned (.bool a) = .returned (.bool b) := by rw [h]
theorem ret_int {k : IntKind} {a b : Int} (h : a = b) : Ending.returned (.int k a) = .returned (.int k b) := by rw [h]

/-! ### Worlds -/
/-- Nothing that was there has turned. -/
abbrev Ext (w w' : World) : Prop := Below w.heap.size w w'

theorem Ext.trans {a b c : World} (h : Ext a b) (k : Ext b c) : Ext a c := Below.trans h (k.mono h.size)
theorem Ext.cell {w w' : World} (h : Ext w w') {b : Nat} (hb : b < w.heap.size) (o : Nat) : w'.cell? ⟨b, o, none⟩ = w.cell? ⟨b, o, none⟩ := Below.cell h (p := ⟨b, o, none⟩) hb
theorem ext_drewN (w : World) (n : Nat) : Ext w (w.drewN n) := ⟨rfl, rfl, rfl, Nat.le_refl _, fun _ _ => rfl⟩
theorem ext_alloc (w : World) (o : Obj) : Ext w (w.alloc o) := Below.alloc (Below.refl _ _) (Nat.le_refl _) o
theorem below_drewN {B : Nat} {a w : World} (h : Below B a w) (n : Nat) : Below B a (w.drewN n) := ⟨h.os, h.tape, h.output, h.size, h.block⟩

theorem box_cell (w : World) (cs : Array Value) (e : TypeId) (i : Nat) : (w.alloc (.cells cs e)).cell? ⟨w.heap.size, i, none⟩ = cs[i]? := cell_of_row _ _ i cs e (0, 0) (heap_alloc_new w _)
/-- A cell of a box that the call laid, asked for in a later world. -/
theorem Ext.box {w w' : World} {cs : Array Value} {e : TypeId} (h : Ext (w.alloc (.cells cs e)) w') (i : Nat) : w'.cell? ⟨w.heap.size, i, none⟩ = cs[i]? := (Ext.cell h (by simp) i).trans (box_cell w cs e i)
theorem Ext.of_alloc {w w' : World} {o : Obj} (h : Ext (w.alloc o) w') : Ext w w' := Ext.trans (ext_alloc w o) h

theorem q_same {P : Program} {f : FuncId} {args : Array Value} {w : World} {n : Nat} {v : Value}
    (h : Calls P f args (w.drewN n) fun e w' => e = .returned v ∧ w.drewN n = w') : Calls P f args (w.drewN n) fun e w'' => e = .returned v ∧ ∃ m, w'' = w.drewN m := h.mono fun _ _ ⟨he, hm⟩ => ⟨he, n, hm.symm⟩
theorem q_same2 {P : Program} {f : FuncId} {args : Array Value} {w : World} {a n : Nat} {v : Value}
    (h : Calls P f args (w.drewN (a + n)) fun e w' => e = .returned v ∧ w.drewN (a + n) = w') : Calls P f args (w.drewN (a + n)) fun e w'' => e = .returned v ∧ ∃ m, w'' = w.drewN (a + m) := h.mono fun _ _ ⟨he, hm⟩ => ⟨he, n, hm.symm⟩
theorem q_drew2 {P : Program} {f : FuncId} {args : Array Value} {w : World} {a n : Nat} {v : Value}
    (h : Calls P f args (w.drewN (a + n)) fun e w' => e = .returned v ∧ ∃ m, w' = (w.drewN (a + n)).drewN m) : Calls P f args (w.drewN (a + n)) fun e w'' => e = .returned v ∧ ∃ m, w'' = w.drewN (a + m) :=
  h.mono fun _ _ ⟨he, m, hm⟩ => ⟨he, n + m, by rw [hm, World.drewN_drewN, Nat.add_assoc]⟩

/-! ### What a row of cells reads as -/
structure Rep (α : Type) where
  size : Nat
  holds : World → (Nat → Prop) → List Value → α → Prop
  len : ∀ {w S cs x}, holds w S cs x → cs.length = size
  one : ∀ {w S cs x}, holds w S cs x → ∀ u ∈ cs, u.oneCell' = true
  keep : ∀ {w w' S S' cs x}, holds w S cs x → (∀ b, S b → S' b ∧ ∀ o, w'.cell? ⟨b, o, none⟩ = w.cell? ⟨b, o, none⟩) → holds w' S' cs x

def all (w : World) : Nat → Prop := fun b => b < w.heap.size

def repInt (k : IntKind) : Rep Int where
  size := 1
  holds _ _ cs x := cs = [.int k x] ∧ (Lit.int k x).wf = true
  len := by rintro _ _ _ _ ⟨rfl, _⟩; rfl
  one := by rintro _ _ _ _ ⟨rfl, _⟩ u hu; simp at hu; subst hu; rfl
  keep := by rintro _ _ _ _ _ _ ⟨rfl, h⟩ _; exact ⟨rfl, h⟩

def repByte : Rep UInt8 where
  size := 1
  holds _ _ cs x := cs = [.int .u8 (x.toNat : Int)]
  len := by rintro _ _ _ _ rfl; rfl
  one := by rintro _ _ _ _ rfl u hu; simp at hu; subst hu; rfl
  keep := by rintro _ _ _ _ _ _ rfl _; rfl

def repBool : Rep Bool where
  size := 1
  holds _ _ cs x := cs = [.bool x]
  len := by rintro _ _ _ _ rfl; rfl
  one := by rintro _ _ _ _ rfl u hu; simp at hu; subst hu; rfl
  keep := by rintro _ _ _ _ _ _ rfl _; rfl

def repString : Rep ByteArray where
  size := 1
  holds _ _ cs x := cs = [.string x]
  len := by rintro _ _ _ _ rfl; rfl
  one := by rintro _ _ _ _ rfl u hu; simp at hu; subst hu; rfl
  keep := by rintro _ _ _ _ _ _ rfl _; rfl

/-- A pair: the first one's cells, then the second one's. -/
def repPair {α β : Type} (r : Rep α) (s : Rep β) : Rep (α × β) where
  size := r.size + s.size
  holds w S cs x := ∃ c d, cs = c ++ d ∧ r.holds w S c x.1 ∧ s.holds w S d x.2
  len := by rintro _ _ _ _ ⟨c, d, rfl, h, k⟩; rw [List.length_append, r.len h, s.len k]
  one := by
    rintro _ _ _ _ ⟨c, d, rfl, h, k⟩ u hu
    rcases List.mem_append.1 hu with hu | hu
    · exact r.one h u hu
    · exact s.one k u hu
  keep := by rintro _ _ _ _ _ _ ⟨c, d, rfl, h, k⟩ hk; exact ⟨c, d, rfl, r.keep h hk, s.keep k hk⟩

variable {α β : Type}

def RowAt (r : Rep α) (w : World) (S : Nat → Prop) (A : Option Addr) (n : Nat) (xs : List α) : Prop :=
  xs.length = n ∧ (0 < n → ∃ b off, A = some ⟨b, off, none⟩ ∧ S b ∧ ∀ j (h : j < xs.length), ∃ ds, r.holds w S ds xs[j] ∧ ∀ i (hi : i < ds.length), w.cell? ⟨b, off + j * r.size + i, none⟩ = some ds[i])

def IsSlice (r : Rep α) (w : World) (S : Nat → Prop) (v : Value) (xs : List α) : Prop :=
  ∃ A n c, v = .slice A n c ∧ n ≤ c ∧ c ≤ maxLen ∧ RowAt r w S A n xs

theorem RowAt.keep {r : Rep α} {w w' : World} {S S' : Nat → Prop} {A n} {xs : List α} (h : RowAt r w S A n xs)
    (hk : ∀ b, S b → S' b ∧ ∀ o, w'.cell? ⟨b, o, none⟩ = w.cell? ⟨b, o, none⟩) : RowAt r w' S' A n xs := by
  refine ⟨h.1, fun hn => ?_⟩
  obtain ⟨b, off, hA, hb, hj⟩ := h.2 hn
  refine ⟨b, off, hA, (hk b hb).1, fun j hjl => ?_⟩
  obtain ⟨ds, hds, hc⟩ := hj j hjl
  exact ⟨ds, r.keep hds hk, fun i hi => ((hk b hb).2 _).trans (hc i hi)⟩

theorem IsSlice.keep {r : Rep α} {w w' : World} {S S' : Nat → Prop} {v} {xs : List α} (h : IsSlice r w S v xs)
    (hk : ∀ b, S b → S' b ∧ ∀ o, w'.cell? ⟨b, o, none⟩ = w.cell? ⟨b, o, none⟩) : IsSlice r w' S' v xs := by
  obtain ⟨A, n, c, hv, h1, h2, h3⟩ := h
  exact ⟨A, n, c, hv, h1, h2, h3.keep hk⟩

def repSlice (r : Rep α) : Rep (List α) where
  size := 1
  holds w S cs xs := ∃ v, cs = [v] ∧ IsSlice r w S v xs
  len := by rintro _ _ _ _ ⟨v, rfl, _⟩; rfl
  one := by
    rintro _ _ _ _ ⟨v, rfl, _, _, _, rfl, _⟩ u hu
    simp at hu; subst hu; rfl
  keep := by rintro _ _ _ _ _ _ ⟨v, rfl, h⟩ hk; exact ⟨v, rfl, h.keep hk⟩

theorem keep_ext {w w' : World} (h : Ext w w') : ∀ b, all w b → all w' b ∧ ∀ o, w'.cell? ⟨b, o, none⟩ = w.cell? ⟨b, o, none⟩ :=
  fun _ hb => ⟨Nat.lt_of_lt_of_le hb h.size, fun _ => h.cell hb _⟩

theorem IsSlice.ext {r : Rep α} {w w' : World} {v} {xs : List α} (h : IsSlice r w (all w) v xs) (he : Ext w w') : IsSlice r w' (all w') v xs := h.keep (keep_ext he)
theorem RowAt.ext {r : Rep α} {w w' : World} {A n} {xs : List α} (h : RowAt r w (all w) A n xs) (he : Ext w w') : RowAt r w' (all w') A n xs := h.keep (keep_ext he)
theorem Rep.ext (r : Rep α) {w w' : World} {cs} {x : α} (h : r.holds w (all w) cs x) (he : Ext w w') : r.holds w' (all w') cs x := r.keep h (keep_ext he)

theorem isSlice_nil (r : Rep α) (w : World) (S : Nat → Prop) : IsSlice r w S (.slice none 0 0) [] := ⟨none, 0, 0, rfl, Nat.le_refl _, by simp, rfl, fun h => absurd h (by omega)⟩

/-- A round's element. -/
theorem RowAt.get {r : Rep α} {w : World} {S : Nat → Prop} {A n} {xs : List α} (h : RowAt r w S A n xs) {k : Nat} (hk : k < n) :
    ∃ b off ds x, A = some ⟨b, off, none⟩ ∧ S b ∧ xs[k]? = some x ∧ r.holds w S ds x ∧ ∀ i (hi : i < ds.length), w.cell? ⟨b, off + k * r.size + i, none⟩ = some ds[i] := by
  obtain ⟨b, off, hA, hb, hj⟩ := h.2 (by omega)
  obtain ⟨ds, hds, hc⟩ := hj k (by have := h.1; omega)
  exact ⟨b, off, ds, _, hA, hb, List.getElem?_eq_getElem _, hds, hc⟩
theorem RowAt.get1 {r : Rep α} {w : World} {S : Nat → Prop} {A n} {xs : List α} (hr : r.size = 1) (h : RowAt r w S A n xs) {k : Nat} (hk : k < n) :
    ∃ b off u x, A = some ⟨b, off, none⟩ ∧ S b ∧ xs[k]? = some x ∧ r.holds w S [u] x ∧ w.cell? ⟨b, off + k, none⟩ = some u := by
  obtain ⟨b, off, ds, x, hA, hb, hx, hds, hc⟩ := h.get hk
  have hl := r.len hds
  rw [hr] at hl
  match ds, hl with
  | [u], _ => exact ⟨b, off, u, x, hA, hb, hx, hds, by simpa [hr] using hc 0 (by simp)⟩
theorem RowAt.int {kd : IntKind} {w : World} {S : Nat → Prop} {A n} {xs : List Int} (h : RowAt (repInt kd) w S A n xs) {k : Nat} (hk : k < n) :
    ∃ b off x, A = some ⟨b, off, none⟩ ∧ S b ∧ xs[k]? = some x ∧ w.cell? ⟨b, off + k, none⟩ = some (.int kd x) ∧ (Lit.int kd x).wf = true := by
  obtain ⟨b, off, u, x, hA, hb, hx, hu, hc⟩ := h.get1 rfl hk
  have : u = .int kd x := by have h : [u] = [Value.int kd x] := hu.1; simpa using h
  subst this
  exact ⟨b, off, x, hA, hb, hx, hc, hu.2⟩
theorem RowAt.byte {w : World} {S : Nat → Prop} {A n} {xs : List UInt8} (h : RowAt repByte w S A n xs) {k : Nat} (hk : k < n) :
    ∃ b off x, A = some ⟨b, off, none⟩ ∧ S b ∧ xs[k]? = some x ∧ w.cell? ⟨b, off + k, none⟩ = some (.int .u8 (x.toNat : Int)) := by
  obtain ⟨b, off, u, x, hA, hb, hx, hu, hc⟩ := h.get1 rfl hk
  have : u = .int .u8 (x.toNat : Int) := by have h : [u] = [Value.int .u8 (x.toNat : Int)] := hu; simpa using h
  subst this
  exact ⟨b, off, x, hA, hb, hx, hc⟩
theorem RowAt.slice {r : Rep α} {w : World} {S : Nat → Prop} {A n} {xs : List (List α)} (h : RowAt (repSlice r) w S A n xs) {k : Nat} (hk : k < n) :
    ∃ b off A' m c x, A = some ⟨b, off, none⟩ ∧ S b ∧ xs[k]? = some x ∧ m ≤ c ∧ c ≤ maxLen ∧ RowAt r w S A' m x ∧ w.cell? ⟨b, off + k, none⟩ = some (.slice A' m c) := by
  obtain ⟨b, off, u, x, hA, hb, hx, ⟨v, hv, A', m, c, hv', h1, h2, h3⟩, hc⟩ := h.get1 rfl hk
  simp only [List.cons.injEq, and_true] at hv
  subst hv
  subst hv'
  exact ⟨b, off, A', m, c, x, hA, hb, hx, h1, h2, h3, hc⟩

/-! ### A row of the call's own, that it appends to -/
structure ElemInfo (P : Program) (e : TypeId) (size bytes : Nat) : Prop where
  ex : ∃ i z, P.info? e = some i ∧ i.zero = some z ∧ i.size = size ∧ i.bytes = bytes ∧ z.cells.size = size

theorem elemInfo {P : Program} {e : TypeId} {z : Value} {size bytes : Nat} (h : (P.info? e).map (fun i => (i.zero, i.size, i.bytes)) = some (some z, size, bytes)) (hz : z.cells.size = size) : ElemInfo P e size bytes := by
  obtain ⟨i, h1, h2, h3, h4⟩ := info_parts h
  exact ⟨i, z, h1, h2, h3, h4, hz⟩

/-- 'v' is nil, or begins a block of the call's own (from block 'base' on), whose first cells read as 'xs'; what the elements lead to lies outside that block. -/
def Own (r : Rep α) (e : TypeId) (base : Nat) (w : World) (v : Value) (xs : List α) : Prop :=
  ∃ ys, w.ownsRow base e r.size v xs.length ys ∧
    ∀ j (h : j < xs.length), r.holds w (fun b => b < w.heap.size ∧ v.ownBlock ≠ some b) ((ys.drop (j * r.size)).take r.size) xs[j]

theorem own_nil (r : Rep α) (e : TypeId) (base : Nat) (w : World) : Own r e base w (.slice none 0 0) [] := ⟨[], World.ownsRow_nil _ _ _ _, fun j h => absurd h (by simp)⟩

theorem Own.lt {r : Rep α} {e base} {w : World} {v} {xs : List α} (h : Own r e base w v xs) : ∀ k, v.ownBlock = some k → base ≤ k ∧ k < w.heap.size := by
  obtain ⟨ys, h1, _⟩ := h; exact h1.lt

theorem Own.keep {r : Rep α} {e base} {w w' : World} {v} {xs : List α} (h : Own r e base w v xs) {row : Option Nat} (hg : w.grownBy w' row) (hne : v.ownBlock = none ∨ v.ownBlock ≠ row)
    (hel : row = none ∨ ∀ b, b < w.heap.size → v.ownBlock ≠ some b → some b ≠ row) : Own r e base w' v xs := by
  obtain ⟨ys, h1, h2⟩ := h
  refine ⟨ys, h1.kept hg hne, fun j hj => r.keep (h2 j hj) fun b hb => ⟨⟨Nat.lt_of_lt_of_le hb.1 hg.size, hb.2⟩, fun o => World.cell?_of_block (hg.block b hb.1 ?_)⟩⟩
  rcases hel with rfl | hel
  · simp
  · exact hel b hb.1 hb.2

theorem Own.ext {r : Rep α} {e base} {w w' : World} {v} {xs : List α} (h : Own r e base w v xs) (he : Ext w w') : Own r e base w' v xs := by
  have hg : w.grownBy w' none := ⟨he.os, he.tape, he.output, he.size, fun k hk _ => he.block k hk⟩
  refine h.keep (row := none) hg ?_ (.inl rfl)
  cases hv : v.ownBlock
  · exact .inl rfl
  · exact .inr (by simp)

theorem Own.form {r : Rep α} {e base} {w : World} {v} {xs : List α} (h : Own r e base w v xs) : ∃ A c, v = .slice A xs.length c ∧ xs.length ≤ c ∧ c ≤ maxLen ∧ RowAt r w (all w) A xs.length xs := by
  obtain ⟨ys, h1, h2⟩ := h
  obtain ⟨hl, h1'⟩ := h1
  have h1 : w.ownsRow base e r.size v xs.length ys := ⟨hl, h1'⟩
  rcases h1' with ⟨rfl, hn⟩ | ⟨g, cap, cur, rfl, hg, hh, hnc, hm, hc, ht⟩
  · have : xs = [] := List.eq_nil_of_length_eq_zero hn
    subst this
    exact ⟨none, 0, rfl, Nat.le_refl _, by simp, rfl, fun h => absurd h (by simp)⟩
  · refine ⟨some ⟨g, 0, none⟩, cap, rfl, hnc, hm, rfl, fun hn => ⟨g, 0, rfl, (h1.lt g rfl).2, fun j hj => ⟨_, r.keep (h2 j hj) fun b hb => ⟨hb.1, fun _ => rfl⟩, fun i hi => ?_⟩⟩⟩
    have hlt := hi
    rw [r.len (h2 j hj)] at hlt
    have hb : j * r.size + i < xs.length * r.size := by
      have : (j + 1) * r.size ≤ xs.length * r.size := Nat.mul_le_mul_right _ (by omega)
      rw [Nat.add_mul] at this
      omega
    rw [Nat.zero_add, h1.cellAt _ hb]
    rw [List.getElem_take, List.getElem_drop, List.getElem?_eq_getElem (by rw [hl]; exact hb)]

theorem Own.slice {r : Rep α} {e base} {w : World} {v} {xs : List α} (h : Own r e base w v xs) : IsSlice r w (all w) v xs := by
  obtain ⟨A, c, hv, h1, h2, h3⟩ := h.form
  exact ⟨A, _, c, hv, h1, h2, h3⟩

/-- The law of append: onto a row of the call's own, of whatever slice that reads as a list. -/
theorem run_app {P : Program} {r : Rep α} {w : World} (base : Nat) (t ty e : TypeId) (bytes : Nat) (ht : P.underlying t = some (.slice e)) (hi : ElemInfo P e r.size bytes) (hsz : 0 < r.size)
    (v : Value) (xs : List α) (hown : Own r e base w v xs) (u : Value) (news : List α) (hu : IsSlice r w (fun b => b < w.heap.size ∧ v.ownBlock ≠ some b) u news)
    (hbytes : (xs.length + news.length) * bytes ≤ 140737488355328) (h63 : xs.length + news.length ≤ maxLen) (hbase : base ≤ w.heap.size) :
    ∃ v' w', (Builtin.append_ #[t, t] ty #[v, u]).run P w = .ok v' w' ∧ Own r e base w' v' (xs ++ news) ∧ w.grownBy w' v.ownBlock ∧ (v'.ownBlock = v.ownBlock ∨ v'.ownBlock = some w.heap.size) := by
  obtain ⟨i, z, hi1, hz, hsize, hby, hzs⟩ := hi.ex
  obtain ⟨ys, h1, h2⟩ := hown
  obtain ⟨A, m, c, rfl, hmc, hcm, hlen, hrow⟩ := hu
  by_cases hm : news = []
  · subst hm
    have hm : m = 0 := by simpa using hlen.symm
    subst hm
    have hrun : ∃ v' w', (Builtin.append_ #[t, t] ty #[v, .slice A 0 c]).run P w = .ok v' w' ∧ w'.ownsRow base e r.size v' xs.length ys ∧ w.grownBy w' v.ownBlock ∧ (v'.ownBlock = v.ownBlock ∨ v'.ownBlock = some w.heap.size) := by
      rcases A with _ | ad
      · refine ⟨v, w, ?_, h1, World.grownBy.refl w _, .inl rfl⟩
        rcases h1.2 with ⟨rfl, _⟩ | ⟨g, cap, cur, rfl, _, _, hnc, _⟩
        · simp [Builtin.append_, run_underlying ht, sizeOf, typeInfo, hi1, Builtin.lenOf, Builtin.firstCells]
        · simp [Builtin.append_, run_underlying ht, sizeOf, typeInfo, hi1, Builtin.lenOf, Builtin.firstCells, hnc, storeCells]
      · obtain ⟨v', w', e1, e2, e3, _, e5⟩ := run_append_own_at (P := P) w base t ty e i z r.size bytes ht hi1 hz hsize hby hzs hsz v xs.length ys h1 ad 0 c [] (by simp) (by simp) (by simp) (by simpa using h63) (by simpa using hbytes) hbase
        exact ⟨v', w', e1, by simpa using e2, e3, e5⟩
    obtain ⟨v', w', e1, e2, e3, e4⟩ := hrun
    refine ⟨v', w', e1, ⟨ys, by simpa using e2, fun j hj => ?_⟩, e3, e4⟩
    have hj' : j < xs.length := by simpa using hj
    have hk := h2 j hj'
    simp only [List.append_nil]
    refine r.keep hk fun b hb => ⟨⟨Nat.lt_of_lt_of_le hb.1 e3.size, ?_⟩, fun o => World.cell?_of_block (e3.block b hb.1 (fun e => hb.2 e.symm))⟩
    rcases e4 with e4 | e4 <;> rw [e4]
    · exact hb.2
    · intro e
      have := hb.1
      injection e with e
      omega
  · have hm0 : 0 < m := by rw [← hlen]; exact List.length_pos_iff.2 hm
    obtain ⟨b, off, rfl, hSb, hel⟩ := hrow hm0
    -- the cells of all elements, one behind the other
    have key : ∀ (l : List α) (j0 : Nat), (∀ j (h : j < l.length), ∃ ds, r.holds w (fun b => b < w.heap.size ∧ v.ownBlock ≠ some b) ds l[j] ∧ ∀ i (hi : i < ds.length), w.cell? ⟨b, off + (j0 + j) * r.size + i, none⟩ = some ds[i]) →
        ∃ zs : List Value, zs.length = l.length * r.size ∧ (∀ i (hi : i < zs.length), w.cell? ⟨b, off + j0 * r.size + i, none⟩ = some zs[i]) ∧ (∀ u ∈ zs, u.oneCell' = true) ∧
          ∀ j (h : j < l.length), r.holds w (fun b => b < w.heap.size ∧ v.ownBlock ≠ some b) ((zs.drop (j * r.size)).take r.size) l[j] := by
      intro l
      induction l with
      | nil => intro j0 _; exact ⟨[], by simp, by simp, by simp, by simp⟩
      | cons x l ih =>
        intro j0 hl
        obtain ⟨ds, hds, hc⟩ := hl 0 (by simp)
        obtain ⟨zs, g1, g2, g3, g4⟩ := ih (j0 + 1) (fun j hj => by
          obtain ⟨ds, a1, a2⟩ := hl (j + 1) (by simp; omega)
          refine ⟨ds, by simpa using a1, fun i hi => ?_⟩
          have := a2 i hi
          rwa [show j0 + 1 + j = j0 + (j + 1) from by omega])
        have hdl := r.len hds
        refine ⟨ds ++ zs, by simp [hdl, g1, Nat.add_mul]; omega, fun i hi => ?_, fun u hu => ?_, fun j hj => ?_⟩
        · by_cases hi' : i < ds.length
          · rw [List.getElem_append_left hi']
            have := hc i hi'
            simpa using this
          · rw [List.getElem_append_right (by omega)]
            have := g2 (i - ds.length) (by simp at hi; omega)
            rw [← this]
            congr 2
            rw [Nat.add_mul, hdl]
            omega
        · rcases List.mem_append.1 hu with hu | hu
          · exact r.one hds u hu
          · exact g3 u hu
        · rcases j with _ | j
          · simpa [List.take_append_of_le_length (Nat.le_of_eq hdl.symm), ← hdl] using hds
          · have := g4 j (by simpa using hj)
            have e : (ds ++ zs).drop ((j + 1) * r.size) = zs.drop (j * r.size) := by
              rw [show (j + 1) * r.size = ds.length + j * r.size from by rw [Nat.add_mul, hdl]; omega, List.drop_length_add_append]
            simpa [e] using this
    obtain ⟨zs, g1, g2, g3, g4⟩ := key news 0 (by simpa using hel)
    obtain ⟨v', w', e1, e2, e3, _, e5⟩ := run_append_own_at (P := P) w base t ty e i z r.size bytes ht hi1 hz hsize hby hzs hsz v xs.length ys h1 ⟨b, off, none⟩ m c zs (by rw [g1, hlen])
      (fun j u hu => by
        have hj := (List.getElem?_eq_some_iff.1 hu).1
        have := g2 j hj
        simp only [Nat.zero_mul, Nat.add_zero] at this
        have hu' := (List.getElem?_eq_some_iff.1 hu).2
        rw [hu'] at this
        rw [← this]
        unfold Addr.add
        split <;> simp_all) g3 (by rw [← hlen]; exact h63) (by rw [← hlen]; exact hbytes) hbase
    have hw : ∀ b, (b < w.heap.size ∧ v.ownBlock ≠ some b) → (b < w'.heap.size ∧ v'.ownBlock ≠ some b) ∧ ∀ o, w'.cell? ⟨b, o, none⟩ = w.cell? ⟨b, o, none⟩ := by
      intro b hb
      refine ⟨⟨Nat.lt_of_lt_of_le hb.1 e3.size, ?_⟩, fun o => World.cell?_of_block (e3.block b hb.1 (fun e => hb.2 e.symm))⟩
      rcases e5 with e5 | e5 <;> rw [e5]
      · exact hb.2
      · intro e
        have := hb.1
        injection e with e
        omega
    refine ⟨v', w', e1, ⟨ys ++ zs, by rw [List.length_append, hlen]; exact e2, fun j hj => ?_⟩, e3, e5⟩
    have hyl : ys.length = xs.length * r.size := h1.1
    by_cases hj' : j < xs.length
    · rw [List.getElem_append_left hj']
      have h3 := r.keep (h2 j hj') hw
      have hle : (j + 1) * r.size ≤ xs.length * r.size := Nat.mul_le_mul_right _ (by omega)
      rw [Nat.add_mul] at hle
      rwa [List.drop_append_of_le_length (by omega), List.take_append_of_le_length (by rw [List.length_drop]; omega)]
    · rw [List.getElem_append_right (by omega)]
      have h3 := r.keep (g4 (j - xs.length) (by simp at hj; omega)) hw
      have e : (ys ++ zs).drop (j * r.size) = zs.drop ((j - xs.length) * r.size) := by
        rw [show j * r.size = ys.length + (j - xs.length) * r.size from by rw [hyl, ← Nat.add_mul]; congr 1; omega, List.drop_length_add_append]
      rwa [e]

section
variable {P : Program} {r : Rep α} {w : World} {ops : Array Oper} {rest : List Oper} {o : Oper} {a : Act} {K : Act → World → Prop} {Q : Exit → Act → World → Prop}

theorem wp_app {base : Nat} {t e : TypeId} {bytes : Nat} {v u : Value} {xs news : List α} (s x : Operand)
    (ho : o.op = .call { callee := .builtin .append, args := #[s, x], argTypes := #[t, t] }) (ht : P.underlying t = some (.slice e)) (hi : ElemInfo P e r.size bytes) (hsz : 0 < r.size)
    (hs : a.eval s = v) (hx : a.eval x = u) (hown : Own r e base w v xs) (hu : IsSlice r w (fun b => b < w.heap.size ∧ v.ownBlock ≠ some b) u news)
    (hbytes : (xs.length + news.length) * bytes ≤ 140737488355328) (h63 : xs.length + news.length ≤ maxLen) (hbase : base ≤ w.heap.size)
    (h : ∀ v' w', Own r e base w' v' (xs ++ news) → w.grownBy w' v.ownBlock → (v'.ownBlock = v.ownBlock ∨ v'.ownBlock = some w.heap.size) → K (a.put o.dst v') w') : o.wp P a w K Q := by
  obtain ⟨v', w', hrun, h2, h3, h4⟩ := run_app (P := P) base t o.type e bytes ht hi hsz v xs hown u news hu hbytes h63 hbase
  unfold Oper.wp execOp
  simp only [ho, resolve, invoke, builtin, Sem.run_bind, Sem.run_pure, Result.andThen_ok, List.map_toArray, List.map_cons, List.map_nil, hs, hx, hrun]
  exact h v' w' h2 h3 h4

theorem wpl_app {base : Nat} {t e : TypeId} {bytes : Nat} {v u : Value} {xs news : List α} (s x : Operand) (hgd : o.guard = none)
    (ho : o.op = .call { callee := .builtin .append, args := #[s, x], argTypes := #[t, t] }) (ht : P.underlying t = some (.slice e)) (hi : ElemInfo P e r.size bytes) (hsz : 0 < r.size)
    (hs : a.eval s = v) (hx : a.eval x = u) (hown : Own r e base w v xs) (hu : IsSlice r w (fun b => b < w.heap.size ∧ v.ownBlock ≠ some b) u news)
    (hbytes : (xs.length + news.length) * bytes ≤ 140737488355328) (h63 : xs.length + news.length ≤ maxLen) (hbase : base ≤ w.heap.size)
    (h : ∀ v' w', Own r e base w' v' (xs ++ news) → w.grownBy w' v.ownBlock → (v'.ownBlock = v.ownBlock ∨ v'.ownBlock = some w.heap.size) → wpList P ops Q rest (a.put o.dst v') w') : wpList P ops Q (o :: rest) a w :=
  wpList_plain hgd fun _ hK => wp_app s x ho ht hi hsz hs hx hown hu hbytes h63 hbase fun v' w' h2 h3 h4 => hK _ _ (h v' w' h2 h3 h4)

/-- The one element that 'append(out, x)' lays into a new block ahead of it. -/
theorem isSlice_one {cs : Array Value} {e : TypeId} {v : Value} {x : α} (h : r.holds w (fun b => b < w.heap.size ∧ v.ownBlock ≠ some b) cs.toList x) (hv : ∀ k, v.ownBlock = some k → k < w.heap.size) :
    IsSlice r (w.alloc (.cells cs e)) (fun b => b < (w.alloc (.cells cs e)).heap.size ∧ v.ownBlock ≠ some b) (.slice (some ⟨w.heap.size, 0, none⟩) 1 1) [x] := by
  refine ⟨_, 1, 1, rfl, Nat.le_refl _, by simp [maxLen], rfl, fun _ => ⟨w.heap.size, 0, rfl, ⟨by simp, fun e => by have := hv _ e; omega⟩, fun j hj => ?_⟩⟩
  obtain rfl : j = 0 := by simpa using hj
  refine ⟨cs.toList, r.keep h fun b hb => ⟨⟨by have := hb.1; simp; omega, hb.2⟩, fun o => World.cell?_alloc_lt w _ _ hb.1⟩, fun i hi => ?_⟩
  rw [show 0 + 0 * r.size + i = i from by omega]
  have := cell_of_row (w.alloc (.cells cs e)) w.heap.size i cs e (0, 0) (heap_alloc_new w _)
  rw [this, ← Array.getElem?_toList, List.getElem?_eq_getElem hi]

/-- 'append(out, x)': behind the new block. -/
theorem wpl_app1 {base g : Nat} {t e : TypeId} {bytes : Nat} {v : Value} {xs : List α} {x : α} {cs : Array Value} (s y : Operand) (hgd : o.guard = none)
    (ho : o.op = .call { callee := .builtin .append, args := #[s, y], argTypes := #[t, t] }) (ht : P.underlying t = some (.slice e)) (hi : ElemInfo P e r.size bytes) (hsz : 0 < r.size)
    (hs : a.eval s = v) (hx : a.eval y = .slice (some ⟨g, 0, none⟩) 1 1) (hg : g = w.heap.size) (hown : Own r e base w v xs) (hu : r.holds w (fun b => b < w.heap.size ∧ v.ownBlock ≠ some b) cs.toList x)
    (hbytes : (xs.length + 1) * bytes ≤ 140737488355328) (h63 : xs.length + 1 ≤ maxLen) (hbase : base ≤ w.heap.size)
    (h : ∀ v' w', Own r e base w' v' (xs ++ [x]) → w.grownBy w' v.ownBlock → wpList P ops Q rest (a.put o.dst v') w') : wpList P ops Q (o :: rest) a (w.alloc (.cells cs e)) := by
  subst hg
  refine wpl_app s y hgd ho ht hi hsz hs hx (hown.ext (ext_alloc w _)) (isSlice_one hu fun k hk => (hown.lt k hk).2) hbytes h63 (by simp; omega) fun v' w' h1 h2 _ => h v' w' h1 ?_
  refine ⟨h2.os, h2.tape, h2.output, Nat.le_trans (by simp) h2.size, fun k hk hne => (h2.block k (by simp; omega) hne).trans (Below.heap_alloc w _ k hk)⟩

/-- A row that a literal has just laid. -/
theorem own_lit {base : Nat} {e : TypeId} {cs : Array Value} {xs : List α} (hbase : base ≤ w.heap.size) (hm : xs.length ≤ maxLen) (hs : cs.size = xs.length * r.size)
    (h : ∀ j (h : j < xs.length), r.holds w (all w) ((cs.toList.drop (j * r.size)).take r.size) xs[j]) :
    Own r e base (w.alloc (.cells cs e)) (.slice (some ⟨w.heap.size, 0, none⟩) xs.length xs.length) xs :=
  ⟨cs.toList, World.ownsRow_lit w cs xs.length hbase hm hs, fun j hj => r.keep (h j hj) fun b hb => ⟨⟨by have : b < w.heap.size := hb; simp; omega, by
    have : b < w.heap.size := hb
    intro e
    simp [Value.ownBlock] at e
    omega⟩, fun o => World.cell?_alloc_lt w _ _ hb⟩⟩
theorem own_lit1 {base : Nat} {e : TypeId} {cs : Array Value} {x : α} (hbase : base ≤ w.heap.size) (h : r.holds w (all w) cs.toList x) :
    Own r e base (w.alloc (.cells cs e)) (.slice (some ⟨w.heap.size, 0, none⟩) 1 1) [x] := by
  have hl : cs.size = r.size := by rw [← Array.length_toList]; exact r.len h
  refine own_lit (xs := [x]) hbase (by simp [maxLen]) (by simpa using hl) fun j hj => ?_
  obtain rfl : j = 0 := by simpa using hj
  rw [Nat.zero_mul, List.drop_zero, List.take_of_length_le (by rw [Array.length_toList, hl]; exact Nat.le_refl _)]
  exact h

/-- 'append([]T{x}, l...)': behind the new block. -/
theorem wpl_app_lit1 {base g : Nat} {t e : TypeId} {bytes : Nat} {u : Value} {news : List α} {x : α} {cs : Array Value} (s y : Operand) (hgd : o.guard = none)
    (ho : o.op = .call { callee := .builtin .append, args := #[s, y], argTypes := #[t, t] }) (ht : P.underlying t = some (.slice e)) (hi : ElemInfo P e r.size bytes) (hsz : 0 < r.size)
    (hs : a.eval s = .slice (some ⟨g, 0, none⟩) 1 1) (hg : g = w.heap.size) (hx : a.eval y = u) (hlit : r.holds w (all w) cs.toList x) (hu : IsSlice r w (all w) u news)
    (hbytes : (1 + news.length) * bytes ≤ 140737488355328) (h63 : 1 + news.length ≤ maxLen) (hbase : base ≤ w.heap.size)
    (h : ∀ v' w', Own r e base w' v' (x :: news) → Ext w w' → wpList P ops Q rest (a.put o.dst v') w') : wpList P ops Q (o :: rest) a (w.alloc (.cells cs e)) := by
  subst hg
  refine wpl_app s y hgd ho ht hi hsz hs hx (own_lit1 hbase hlit) (hu.keep fun b hb => ⟨⟨?_, ?_⟩, fun o => World.cell?_alloc_lt w _ _ hb⟩) (by simpa using hbytes) (by simpa using h63) (by simp; omega) fun v' w' h1 h2 _ => h v' w' h1 ?_
  · have : b < w.heap.size := hb
    simp; omega
  · have : b < w.heap.size := hb
    intro e
    simp [Value.ownBlock] at e
    omega
  · refine ⟨h2.os, h2.tape, h2.output, Nat.le_trans (by simp) h2.size, fun k hk => (h2.block k (by simp; omega) ?_).trans (Below.heap_alloc w _ k hk)⟩
    simp [Value.ownBlock]
    omega
end
end Go.Proofs.Ytheopadakjojkaa
