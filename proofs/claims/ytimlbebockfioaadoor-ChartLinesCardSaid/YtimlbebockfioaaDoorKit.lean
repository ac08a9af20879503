/- Words of this seat's proofs: what a slice in memory reads as, what a call's own row holds, and the law of append over these words. No program in sight. -/
import Derived.WalkKit
import Derived.WalkLawsBesides
import Derived.WalkSpells
import Derived.ProofKit
import Derived.OpenShut
import Derived.Handy
import Derived.Deep.Slices
import Derived.Deep.Fields
import Derived.Deep.AppendLies
import Derived.Deep.Draws
import Derived.Deep.QuietTactic
import Derived.BigQuiet
import Derived.Maps.AppendAt
namespace Go.Proofs.YtimlbebockfioaaDoor
open Go.RowKit

/-- Hidden behind a wall: no unfolding shows it. -/
structure Wall (p : Prop) : Prop where
  out : p
theorem hid {p : Prop} (h : p) : Wall p := ⟨h⟩

theorem take_succ_of {α : Type} {l : List α} {k : Nat} {x : α} (h : l[k]? = some x) : l.take (k + 1) = l.take k ++ [x] := by
  rw [List.take_add_one, h]; rfl
theorem lt_of_get {α : Type} {l : List α} {k : Nat} {x : α} (h : l[k]? = some x) : k < l.length := (List.getElem?_eq_some_iff.1 h).1

theorem ret_bool {a b : Bool} (h : a = b) : Ending.returned (.bool a) = .returned (.bool b) := by rw [h]
theorem ret_int {k : IntKind} {a b : Int} (h : a = b) : Ending.returned (.int k a) = .returned (.int k b) := by rw [h]

theorem results4 {fn : Func} {t u v x : Tmp} (h : fn.results = #[.tmp t, .tmp u, .tmp v, .tmp x]) (tmps : Array Value) (P : Program) (w : World) :
    (results fn tmps).run P w = .ok (.tuple #[tmps.getD t undef, tmps.getD u undef, tmps.getD v undef, tmps.getD x undef]) w := by simp [results, h]

/-! ### Worlds -/
/-- Nothing that was there has turned. -/
abbrev Ext (w w' : World) : Prop := Below w.heap.size w w'

theorem Ext.trans {a b c : World} (h : Ext a b) (k : Ext b c) : Ext a c := Below.trans h (k.mono h.size)
theorem Ext.cell {w w' : World} (h : Ext w w') {b : Nat} (hb : b < w.heap.size) (o : Nat) : w'.cell? ⟨b, o, none⟩ = w.cell? ⟨b, o, none⟩ := Below.cell h (p := ⟨b, o, none⟩) hb
theorem lt_of_cell' {w : World} {b o : Nat} {v : Value} (h : w.cell? ⟨b, o, none⟩ = some v) : b < w.heap.size := by
  unfold World.cell? at h
  rcases Nat.lt_or_ge b w.heap.size with hlt | hge
  · exact hlt
  · rw [Array.getElem?_eq_none (by simpa using hge)] at h; cases h
theorem ext_drewN (w : World) (n : Nat) : Ext w (w.drewN n) := ⟨rfl, rfl, rfl, Nat.le_refl _, fun _ _ => rfl⟩
theorem ext_alloc (w : World) (o : Obj) : Ext w (w.alloc o) := Below.alloc (Below.refl _ _) (Nat.le_refl _) o
theorem below_drewN {B : Nat} {a w : World} (h : Below B a w) (n : Nat) : Below B a (w.drewN n) := ⟨h.os, h.tape, h.output, h.size, h.block⟩

theorem box_cell (w : World) (cs : Array Value) (e : TypeId) (i : Nat) : (w.alloc (.cells cs e)).cell? ⟨w.heap.size, i, none⟩ = cs[i]? := cell_of_row _ _ i cs e (0, 0) (heap_alloc_new w _)
/-- A cell of a box that the call laid, asked for in a later world. -/
theorem Ext.box {w w' : World} {cs : Array Value} {e : TypeId} (h : Ext (w.alloc (.cells cs e)) w') (i : Nat) : w'.cell? ⟨w.heap.size, i, none⟩ = cs[i]? := (Ext.cell h (by simp) i).trans (box_cell w cs e i)
theorem Ext.of_alloc {w w' : World} {o : Obj} (h : Ext (w.alloc o) w') : Ext w w' := Ext.trans (ext_alloc w o) h

theorem q_same {P : Program} {f : FuncId} {args : Array Value} {w : World} {n : Nat} {v : Value}
    (h : Calls P f args (w.drewN n) fun e w' => e = .returned v ∧ w.drewN n = w') : Calls P f args (w.drewN n) fun e w'' => e = .returned v ∧ ∃ m, w'' = w.drewN m := h.mono fun _ _ ⟨he, hm⟩ => ⟨he, n, hm.symm⟩
theorem q_same2 {P : Program} {f : FuncId} {args : Array Value} {w : World} {a n : Nat} {v : Value}
    (h : Calls P f args (w.drewN (a + n)) fun e w' => e = .returned v ∧ w.drewN (a + n) = w') : Calls P f args (w.drewN (a + n)) fun e w'' => e = .returned v ∧ ∃ m, w'' = w.drewN (a + m) := h.mono fun _ _ ⟨he, hm⟩ => ⟨he, n, hm.symm⟩
theorem q_drew2 {P : Program} {f : FuncId} {args : Array Value} {w : World} {a n : Nat} {v : Value}
    (h : Calls P f args (w.drewN (a + n)) fun e w' => e = .returned v ∧ ∃ m, w' = (w.drewN (a + n)).drewN m) : Calls P f args (w.drewN (a + n)) fun e w'' => e = .returned v ∧ ∃ m, w'' = w.drewN (a + m) :=
  h.mono fun _ _ ⟨he, m, hm⟩ => ⟨he, n + m, by rw [hm, World.drewN_drewN, Nat.add_assoc]⟩

/-! ### What a row of cells reads as -/
structure Rep (α : Type) where
  size : Nat
  holds : World → (Nat → Prop) → List Value → α → Prop
  len : ∀ {w S cs x}, holds w S cs x → cs.length = size
  one : ∀ {w S cs x}, holds w S cs x → ∀ u ∈ cs, u.oneCell' = true
  keepP : ∀ {w w' S S' cs x}, holds w S cs x → (∀ b, S b → S' b ∧ ∀ o u, w.cell? ⟨b, o, none⟩ = some u → w'.cell? ⟨b, o, none⟩ = some u) → holds w' S' cs x
theorem Rep.keep {α : Type} (r : Rep α) {w w' : World} {S S' : Nat → Prop} {cs : List Value} {x : α} (h : r.holds w S cs x) (hk : ∀ b, S b → S' b ∧ ∀ o, w'.cell? ⟨b, o, none⟩ = w.cell? ⟨b, o, none⟩) : r.holds w' S' cs x :=
  r.keepP h fun b hb => ⟨(hk b hb).1, fun o _ hu => ((hk b hb).2 o).trans hu⟩

def all (w : World) : Nat → Prop := fun b => b < w.heap.size

def repInt (k : IntKind) : Rep Int where
  size := 1
  holds _ _ cs x := cs = [.int k x] ∧ (Lit.int k x).wf = true
  len := by rintro _ _ _ _ ⟨rfl, _⟩; rfl
  one := by rintro _ _ _ _ ⟨rfl, _⟩ u hu; simp at hu; subst hu; rfl
  keepP := by rintro _ _ _ _ _ _ ⟨rfl, h⟩ _; exact ⟨rfl, h⟩

def repByte : Rep UInt8 where
  size := 1
  holds _ _ cs x := cs = [.int .u8 (x.toNat : Int)]
  len := by rintro _ _ _ _ rfl; rfl
  one := by rintro _ _ _ _ rfl u hu; simp at hu; subst hu; rfl
  keepP := by rintro _ _ _ _ _ _ rfl _; rfl

def repBool : Rep Bool where
  size := 1
  holds _ _ cs x := cs = [.bool x]
  len := by rintro _ _ _ _ rfl; rfl
  one := by rintro _ _ _ _ rfl u hu; simp at hu; subst hu; rfl
  keepP := by rintro _ _ _ _ _ _ rfl _; rfl

def repString : Rep ByteArray where
  size := 1
  holds _ _ cs x := cs = [.string x]
  len := by rintro _ _ _ _ rfl; rfl
  one := by rintro _ _ _ _ rfl u hu; simp at hu; subst hu; rfl
  keepP := by rintro _ _ _ _ _ _ rfl _; rfl

/-- A pair: the first one's cells, then the second one's. -/
def repPair {α β : Type} (r : Rep α) (s : Rep β) : Rep (α × β) where
  size := r.size + s.size
  holds w S cs x := ∃ c d, cs = c ++ d ∧ r.holds w S c x.1 ∧ s.holds w S d x.2
  len := by rintro _ _ _ _ ⟨c, d, rfl, h, k⟩; rw [List.length_append, r.len h, s.len k]
  one := by
    rintro _ _ _ _ ⟨c, d, rfl, h, k⟩ u hu
    rcases List.mem_append.1 hu with hu | hu
    · exact r.one h u hu
    · exact s.one k u hu
  keepP := by rintro _ _ _ _ _ _ ⟨c, d, rfl, h, k⟩ hk; exact ⟨c, d, rfl, r.keepP h hk, s.keepP k hk⟩

variable {α β : Type}

/-- The row lies in a block of S, and what its elements lead to lies in blocks of T. -/
def RowIn (r : Rep α) (w : World) (S T : Nat → Prop) (A : Option Addr) (n : Nat) (xs : List α) : Prop :=
  xs.length = n ∧ (0 < n → ∃ b off, A = some ⟨b, off, none⟩ ∧ S b ∧ ∀ j (h : j < xs.length), ∃ ds, r.holds w T ds xs[j] ∧ ∀ i (hi : i < ds.length), w.cell? ⟨b, off + j * r.size + i, none⟩ = some ds[i])
def SliceIn (r : Rep α) (w : World) (S T : Nat → Prop) (v : Value) (xs : List α) : Prop :=
  ∃ A n c, v = .slice A n c ∧ n ≤ c ∧ c ≤ maxLen ∧ RowIn r w S T A n xs

def RowAt (r : Rep α) (w : World) (S : Nat → Prop) (A : Option Addr) (n : Nat) (xs : List α) : Prop := RowIn r w S S A n xs
def IsSlice (r : Rep α) (w : World) (S : Nat → Prop) (v : Value) (xs : List α) : Prop :=
  ∃ A n c, v = .slice A n c ∧ n ≤ c ∧ c ≤ maxLen ∧ RowAt r w S A n xs

theorem RowIn.keep {r : Rep α} {w w' : World} {S T S' T' : Nat → Prop} {A n} {xs : List α} (h : RowIn r w S T A n xs)
    (hs : ∀ b, S b → S' b ∧ ∀ o, w'.cell? ⟨b, o, none⟩ = w.cell? ⟨b, o, none⟩) (ht : ∀ b, T b → T' b ∧ ∀ o, w'.cell? ⟨b, o, none⟩ = w.cell? ⟨b, o, none⟩) : RowIn r w' S' T' A n xs := by
  refine ⟨h.1, fun hn => ?_⟩
  obtain ⟨b, off, hA, hb, hj⟩ := h.2 hn
  refine ⟨b, off, hA, (hs b hb).1, fun j hjl => ?_⟩
  obtain ⟨ds, hds, hc⟩ := hj j hjl
  exact ⟨ds, r.keep hds ht, fun i hi => ((hs b hb).2 _).trans (hc i hi)⟩

/-- What leads nowhere: a number, a text. -/
def Flat (r : Rep α) : Prop := ∀ w S w' S' cs x, r.holds w S cs x → r.holds w' S' cs x
theorem flat_int (k : IntKind) : Flat (repInt k) := fun _ _ _ _ _ _ h => h
theorem flat_byte : Flat repByte := fun _ _ _ _ _ _ h => h
theorem flat_string : Flat repString := fun _ _ _ _ _ _ h => h
theorem IsSlice.flat {r : Rep α} (hf : Flat r) {w : World} {S T : Nat → Prop} {v} {xs : List α} (h : IsSlice r w S v xs) : SliceIn r w S T v xs := by
  obtain ⟨A, n, c, hv, h1, h2, h3, h4⟩ := h
  refine ⟨A, n, c, hv, h1, h2, h3, fun hn => ?_⟩
  obtain ⟨b, off, hA, hb, hj⟩ := h4 hn
  exact ⟨b, off, hA, hb, fun j hjl => (hj j hjl).imp fun ds hd => ⟨hf _ _ _ _ _ _ hd.1, hd.2⟩⟩

theorem RowAt.keepP {r : Rep α} {w w' : World} {S S' : Nat → Prop} {A n} {xs : List α} (h : RowAt r w S A n xs)
    (hk : ∀ b, S b → S' b ∧ ∀ o u, w.cell? ⟨b, o, none⟩ = some u → w'.cell? ⟨b, o, none⟩ = some u) : RowAt r w' S' A n xs := by
  refine ⟨h.1, fun hn => ?_⟩
  obtain ⟨b, off, hA, hb, hj⟩ := h.2 hn
  refine ⟨b, off, hA, (hk b hb).1, fun j hjl => ?_⟩
  obtain ⟨ds, hds, hc⟩ := hj j hjl
  exact ⟨ds, r.keepP hds hk, fun i hi => (hk b hb).2 _ _ (hc i hi)⟩
theorem IsSlice.keepP {r : Rep α} {w w' : World} {S S' : Nat → Prop} {v} {xs : List α} (h : IsSlice r w S v xs)
    (hk : ∀ b, S b → S' b ∧ ∀ o u, w.cell? ⟨b, o, none⟩ = some u → w'.cell? ⟨b, o, none⟩ = some u) : IsSlice r w' S' v xs := by
  obtain ⟨A, n, c, hv, h1, h2, h3⟩ := h
  exact ⟨A, n, c, hv, h1, h2, h3.keepP hk⟩
theorem RowAt.keep {r : Rep α} {w w' : World} {S S' : Nat → Prop} {A n} {xs : List α} (h : RowAt r w S A n xs)
    (hk : ∀ b, S b → S' b ∧ ∀ o, w'.cell? ⟨b, o, none⟩ = w.cell? ⟨b, o, none⟩) : RowAt r w' S' A n xs := by
  refine ⟨h.1, fun hn => ?_⟩
  obtain ⟨b, off, hA, hb, hj⟩ := h.2 hn
  refine ⟨b, off, hA, (hk b hb).1, fun j hjl => ?_⟩
  obtain ⟨ds, hds, hc⟩ := hj j hjl
  exact ⟨ds, r.keep hds hk, fun i hi => ((hk b hb).2 _).trans (hc i hi)⟩

theorem IsSlice.keep {r : Rep α} {w w' : World} {S S' : Nat → Prop} {v} {xs : List α} (h : IsSlice r w S v xs)
    (hk : ∀ b, S b → S' b ∧ ∀ o, w'.cell? ⟨b, o, none⟩ = w.cell? ⟨b, o, none⟩) : IsSlice r w' S' v xs := by
  obtain ⟨A, n, c, hv, h1, h2, h3⟩ := h
  exact ⟨A, n, c, hv, h1, h2, h3.keep hk⟩

def repSlice (r : Rep α) : Rep (List α) where
  size := 1
  holds w S cs xs := ∃ v, cs = [v] ∧ IsSlice r w S v xs
  len := by rintro _ _ _ _ ⟨v, rfl, _⟩; rfl
  one := by
    rintro _ _ _ _ ⟨v, rfl, _, _, _, rfl, _⟩ u hu
    simp at hu; subst hu; rfl
  keepP := by rintro _ _ _ _ _ _ ⟨v, rfl, h⟩ hk; exact ⟨v, rfl, h.keepP hk⟩

theorem keep_ext {w w' : World} (h : Ext w w') : ∀ b, all w b → all w' b ∧ ∀ o, w'.cell? ⟨b, o, none⟩ = w.cell? ⟨b, o, none⟩ :=
  fun _ hb => ⟨Nat.lt_of_lt_of_le hb h.size, fun _ => h.cell hb _⟩

theorem IsSlice.ext {r : Rep α} {w w' : World} {v} {xs : List α} (h : IsSlice r w (all w) v xs) (he : Ext w w') : IsSlice r w' (all w') v xs := h.keep (keep_ext he)
theorem RowAt.ext {r : Rep α} {w w' : World} {A n} {xs : List α} (h : RowAt r w (all w) A n xs) (he : Ext w w') : RowAt r w' (all w') A n xs := h.keep (keep_ext he)
theorem Rep.ext (r : Rep α) {w w' : World} {cs} {x : α} (h : r.holds w (all w) cs x) (he : Ext w w') : r.holds w' (all w') cs x := r.keep h (keep_ext he)

theorem IsSlice.shape {r : Rep α} {w : World} {S : Nat → Prop} {v} {xs : List α} (h : IsSlice r w S v xs) : ∃ A c, v = .slice A xs.length c := by
  obtain ⟨A, n, c, rfl, _, _, h, _⟩ := h
  exact ⟨A, c, by rw [h]⟩
theorem isSlice_nil (r : Rep α) (w : World) (S : Nat → Prop) : IsSlice r w S (.slice none 0 0) [] := ⟨none, 0, 0, rfl, Nat.le_refl _, by simp, rfl, fun h => absurd h (by omega)⟩

/-- A round's element. -/
theorem RowAt.get {r : Rep α} {w : World} {S : Nat → Prop} {A n} {xs : List α} (h : RowAt r w S A n xs) {k : Nat} (hk : k < n) :
    ∃ b off ds x, A = some ⟨b, off, none⟩ ∧ S b ∧ xs[k]? = some x ∧ r.holds w S ds x ∧ ∀ i (hi : i < ds.length), w.cell? ⟨b, off + k * r.size + i, none⟩ = some ds[i] := by
  obtain ⟨b, off, hA, hb, hj⟩ := h.2 (by omega)
  obtain ⟨ds, hds, hc⟩ := hj k (by have := h.1; omega)
  exact ⟨b, off, ds, _, hA, hb, List.getElem?_eq_getElem _, hds, hc⟩
theorem RowAt.get1 {r : Rep α} {w : World} {S : Nat → Prop} {A n} {xs : List α} (hr : r.size = 1) (h : RowAt r w S A n xs) {k : Nat} (hk : k < n) :
    ∃ b off u x, A = some ⟨b, off, none⟩ ∧ S b ∧ xs[k]? = some x ∧ r.holds w S [u] x ∧ w.cell? ⟨b, off + k, none⟩ = some u := by
  obtain ⟨b, off, ds, x, hA, hb, hx, hds, hc⟩ := h.get hk
  have hl := r.len hds
  rw [hr] at hl
  match ds, hl with
  | [u], _ => exact ⟨b, off, u, x, hA, hb, hx, hds, by simpa [hr] using hc 0 (by simp)⟩
theorem RowAt.int {kd : IntKind} {w : World} {S : Nat → Prop} {A n} {xs : List Int} (h : RowAt (repInt kd) w S A n xs) {k : Nat} (hk : k < n) :
    ∃ b off x, A = some ⟨b, off, none⟩ ∧ S b ∧ xs[k]? = some x ∧ w.cell? ⟨b, off + k, none⟩ = some (.int kd x) ∧ (Lit.int kd x).wf = true := by
  obtain ⟨b, off, u, x, hA, hb, hx, hu, hc⟩ := h.get1 rfl hk
  have : u = .int kd x := by have h : [u] = [Value.int kd x] := hu.1; simpa using h
  subst this
  exact ⟨b, off, x, hA, hb, hx, hc, hu.2⟩
theorem RowAt.byte {w : World} {S : Nat → Prop} {A n} {xs : List UInt8} (h : RowAt repByte w S A n xs) {k : Nat} (hk : k < n) :
    ∃ b off x, A = some ⟨b, off, none⟩ ∧ S b ∧ xs[k]? = some x ∧ w.cell? ⟨b, off + k, none⟩ = some (.int .u8 (x.toNat : Int)) := by
  obtain ⟨b, off, u, x, hA, hb, hx, hu, hc⟩ := h.get1 rfl hk
  have : u = .int .u8 (x.toNat : Int) := by have h : [u] = [Value.int .u8 (x.toNat : Int)] := hu; simpa using h
  subst this
  exact ⟨b, off, x, hA, hb, hx, hc⟩
theorem RowAt.slice {r : Rep α} {w : World} {S : Nat → Prop} {A n} {xs : List (List α)} (h : RowAt (repSlice r) w S A n xs) {k : Nat} (hk : k < n) :
    ∃ b off A' m c x, A = some ⟨b, off, none⟩ ∧ S b ∧ xs[k]? = some x ∧ m ≤ c ∧ c ≤ maxLen ∧ RowAt r w S A' m x ∧ w.cell? ⟨b, off + k, none⟩ = some (.slice A' m c) := by
  obtain ⟨b, off, u, x, hA, hb, hx, ⟨v, hv, A', m, c, hv', h1, h2, h3⟩, hc⟩ := h.get1 rfl hk
  simp only [List.cons.injEq, and_true] at hv
  subst hv
  subst hv'
  exact ⟨b, off, A', m, c, x, hA, hb, hx, h1, h2, h3, hc⟩

/-- The same, asked for in a later world. -/
theorem RowAt.intE {kd : IntKind} {w w' : World} {A n} {xs : List Int} (h : RowAt (repInt kd) w (all w) A n xs) (he : Ext w w') {k : Nat} (hk : k < n) :
    ∃ b off x, A = some ⟨b, off, none⟩ ∧ xs[k]? = some x ∧ w'.cell? ⟨b, off + k, none⟩ = some (.int kd x) ∧ (Lit.int kd x).wf = true := by
  obtain ⟨b, off, x, hA, hb, hx, hc, hw⟩ := h.int hk
  exact ⟨b, off, x, hA, hx, (he.cell hb _).trans hc, hw⟩
theorem RowAt.byteE {w w' : World} {A n} {xs : List UInt8} (h : RowAt repByte w (all w) A n xs) (he : Ext w w') {k : Nat} (hk : k < n) :
    ∃ b off x, A = some ⟨b, off, none⟩ ∧ xs[k]? = some x ∧ w'.cell? ⟨b, off + k, none⟩ = some (.int .u8 (x.toNat : Int)) := by
  obtain ⟨b, off, x, hA, hb, hx, hc⟩ := h.byte hk
  exact ⟨b, off, x, hA, hx, (he.cell hb _).trans hc⟩
theorem RowAt.sliceE {r : Rep α} {w w' : World} {A n} {xs : List (List α)} (h : RowAt (repSlice r) w (all w) A n xs) (he : Ext w w') {k : Nat} (hk : k < n) :
    ∃ b off A' m c x, A = some ⟨b, off, none⟩ ∧ xs[k]? = some x ∧ IsSlice r w (all w) (.slice A' m c) x ∧ x.length = m ∧ w'.cell? ⟨b, off + k, none⟩ = some (.slice A' m c) := by
  obtain ⟨b, off, A', m, c, x, hA, hb, hx, h1, h2, h3, hc⟩ := h.slice hk
  exact ⟨b, off, A', m, c, x, hA, hx, ⟨_, _, _, rfl, h1, h2, h3⟩, h3.1, (he.cell hb _).trans hc⟩

/-! ### A row of the call's own, that it appends to -/
structure ElemInfo (P : Program) (e : TypeId) (size bytes : Nat) : Prop where
  ex : ∃ i z, P.info? e = some i ∧ i.zero = some z ∧ i.size = size ∧ i.bytes = bytes ∧ z.cells.size = size

theorem elemInfo {P : Program} {e : TypeId} {z : Value} {size bytes : Nat} (h : (P.info? e).map (fun i => (i.zero, i.size, i.bytes)) = some (some z, size, bytes)) (hz : z.cells.size = size) : ElemInfo P e size bytes := by
  obtain ⟨i, h1, h2, h3, h4⟩ := info_parts h
  exact ⟨i, z, h1, h2, h3, h4, hz⟩

/-- Outside the row 'v'; outside it, and of the call's own. -/
def nb (w : World) (v : Value) : Nat → Prop := fun b => b < w.heap.size ∧ v.ownBlock ≠ some b
def el (base : Nat) (w : World) (v : Value) : Nat → Prop := fun b => base ≤ b ∧ b < w.heap.size ∧ v.ownBlock ≠ some b
/-- New since w. -/
def fresh (w w' : World) : Nat → Prop := fun b => w.heap.size ≤ b ∧ b < w'.heap.size

/-- 'v' is nil, or begins a block of the call's own (from block 'base' on), whose first cells read as 'xs'; what the elements lead to is the call's own too, and lies outside that block. -/
def Own (r : Rep α) (e : TypeId) (base : Nat) (w : World) (v : Value) (xs : List α) : Prop :=
  ∃ ys, w.ownsRow base e r.size v xs.length ys ∧
    ∀ j (h : j < xs.length), r.holds w (el base w v) ((ys.drop (j * r.size)).take r.size) xs[j]

theorem own_nil (r : Rep α) (e : TypeId) (base : Nat) (w : World) : Own r e base w (.slice none 0 0) [] := ⟨[], World.ownsRow_nil _ _ _ _, fun j h => absurd h (by simp)⟩

theorem Own.lt {r : Rep α} {e base} {w : World} {v} {xs : List α} (h : Own r e base w v xs) : ∀ k, v.ownBlock = some k → base ≤ k ∧ k < w.heap.size := by
  obtain ⟨ys, h1, _⟩ := h; exact h1.lt

theorem Own.keep {r : Rep α} {e base} {w w' : World} {v} {xs : List α} (h : Own r e base w v xs) {row : Option Nat} (hg : w.grownBy w' row) (hne : v.ownBlock = none ∨ v.ownBlock ≠ row)
    (hel : row = none ∨ ∀ b, el base w v b → some b ≠ row) : Own r e base w' v xs := by
  obtain ⟨ys, h1, h2⟩ := h
  refine ⟨ys, h1.kept hg hne, fun j hj => r.keep (h2 j hj) fun b hb => ⟨⟨hb.1, Nat.lt_of_lt_of_le hb.2.1 hg.size, hb.2.2⟩, fun o => World.cell?_of_block (hg.block b hb.2.1 ?_)⟩⟩
  rcases hel with rfl | hel
  · simp
  · exact hel b hb

theorem Own.ext {r : Rep α} {e base} {w w' : World} {v} {xs : List α} (h : Own r e base w v xs) (he : Ext w w') : Own r e base w' v xs := by
  have hg : w.grownBy w' none := ⟨he.os, he.tape, he.output, he.size, fun k hk _ => he.block k hk⟩
  refine h.keep (row := none) hg ?_ (.inl rfl)
  cases hv : v.ownBlock
  · exact .inl rfl
  · exact .inr (by simp)

theorem Own.form {r : Rep α} {e base} {w : World} {v} {xs : List α} (h : Own r e base w v xs) : ∃ A c, v = .slice A xs.length c ∧ xs.length ≤ c ∧ c ≤ maxLen ∧ RowAt r w (fun b => base ≤ b ∧ b < w.heap.size) A xs.length xs := by
  obtain ⟨ys, h1, h2⟩ := h
  obtain ⟨hl, h1'⟩ := h1
  have h1 : w.ownsRow base e r.size v xs.length ys := ⟨hl, h1'⟩
  rcases h1' with ⟨rfl, hn⟩ | ⟨g, cap, cur, rfl, hg, hh, hnc, hm, hc, ht⟩
  · have : xs = [] := List.eq_nil_of_length_eq_zero hn
    subst this
    exact ⟨none, 0, rfl, Nat.le_refl _, by simp, rfl, fun h => absurd h (by simp)⟩
  · refine ⟨some ⟨g, 0, none⟩, cap, rfl, hnc, hm, rfl, fun hn => ⟨g, 0, rfl, h1.lt g rfl, fun j hj => ⟨_, r.keep (h2 j hj) fun b hb => ⟨⟨hb.1, hb.2.1⟩, fun _ => rfl⟩, fun i hi => ?_⟩⟩⟩
    have hlt := hi
    rw [r.len (h2 j hj)] at hlt
    have hb : j * r.size + i < xs.length * r.size := by
      have : (j + 1) * r.size ≤ xs.length * r.size := Nat.mul_le_mul_right _ (by omega)
      rw [Nat.add_mul] at this
      omega
    rw [Nat.zero_add, h1.cellAt _ hb]
    rw [List.getElem_take, List.getElem_drop, List.getElem?_eq_getElem (by rw [hl]; exact hb)]

theorem Own.own {r : Rep α} {e base} {w : World} {v} {xs : List α} (h : Own r e base w v xs) : IsSlice r w (fun b => base ≤ b ∧ b < w.heap.size) v xs := by
  obtain ⟨A, c, hv, h1, h2, h3⟩ := h.form
  exact ⟨A, _, c, hv, h1, h2, h3⟩
/-- The row as a result: it lies in new memory. -/
theorem Own.fresh {r : Rep α} {e} {w w' : World} {v} {xs : List α} (h : Own r e w.heap.size w' v xs) : IsSlice r w' (fresh w w') v xs := h.own
theorem Own.slice {r : Rep α} {e base} {w : World} {v} {xs : List α} (h : Own r e base w v xs) : IsSlice r w (all w) v xs := h.own.keep fun _ hb => ⟨hb.2, fun _ => rfl⟩
theorem IsSlice.any {r : Rep α} {w w' : World} {v} {xs : List α} (h : IsSlice r w' (fresh w w') v xs) : IsSlice r w' (all w') v xs := h.keep fun _ hb => ⟨hb.2, fun _ => rfl⟩
/-- What is new since w is new since an earlier world. -/
theorem IsSlice.since {r : Rep α} {w0 w w' : World} {v} {xs : List α} (h : IsSlice r w' (Proofs.YtimlbebockfioaaDoor.fresh w w') v xs) (he : Ext w0 w) : IsSlice r w' (Proofs.YtimlbebockfioaaDoor.fresh w0 w') v xs := h.keep fun _ hb => ⟨⟨Nat.le_trans he.size hb.1, hb.2⟩, fun _ => rfl⟩
/-- .. and stays so. -/
theorem IsSlice.later {r : Rep α} {w0 w w' : World} {v} {xs : List α} (h : IsSlice r w (Proofs.YtimlbebockfioaaDoor.fresh w0 w) v xs) (he : Ext w w') : IsSlice r w' (Proofs.YtimlbebockfioaaDoor.fresh w0 w') v xs := h.keep fun _ hb => ⟨⟨hb.1, Nat.lt_of_lt_of_le hb.2 he.size⟩, fun _ => he.cell hb.2 _⟩
theorem isSlice_single {r : Rep α} {w : World} {S : Nat → Prop} {v : Value} {xs : List α} (h : IsSlice r w S v xs) : (repSlice r).holds w S [v] xs := ⟨v, rfl, h⟩
/-- What a callee has just made lies outside a row that was there ahead of the call. -/
theorem IsSlice.newer {r : Rep α} {w w' : World} {u v : Value} {xs : List α} {base : Nat} (h : IsSlice r w' (Proofs.YtimlbebockfioaaDoor.fresh w w') u xs) (hv : ∀ k, v.ownBlock = some k → base ≤ k ∧ k < w.heap.size) (hb : base ≤ w.heap.size) : IsSlice r w' (el base w' v) u xs :=
  h.keep fun b hb' => ⟨⟨Nat.le_trans hb hb'.1, hb'.2, fun e => by have := (hv b e).2; have := hb'.1; omega⟩, fun _ => rfl⟩

/-- What lay there before the row was begun lies outside it. -/
theorem off_own {w w' : World} (he : Ext w w') {v : Value} (hv : ∀ k, v.ownBlock = some k → w.heap.size ≤ k) : ∀ b, all w b → nb w' v b ∧ ∀ o, w'.cell? ⟨b, o, none⟩ = w.cell? ⟨b, o, none⟩ :=
  fun b hb => ⟨⟨Nat.lt_of_lt_of_le hb he.size, fun e => by have := hv b e; have : b < w.heap.size := hb; omega⟩, fun _ => he.cell hb _⟩
theorem IsSlice.off {r : Rep α} {w w' : World} {v u : Value} {xs : List α} (h : IsSlice r w (all w) u xs) (he : Ext w w') (hv : ∀ k, v.ownBlock = some k → w.heap.size ≤ k) :
    IsSlice r w' (nb w' v) u xs := h.keep (off_own he hv)
theorem RowAt.isSlice {r : Rep α} {w : World} {S : Nat → Prop} {A n c} {xs : List α} (h : RowAt r w S A n xs) (h1 : n ≤ c) (h2 : c ≤ maxLen) : IsSlice r w S (.slice A n c) xs := ⟨A, n, c, rfl, h1, h2, h⟩

theorem add_eq (b off k : Nat) : (⟨b, off, none⟩ : Addr).add k = ⟨b, off + k, none⟩ := by unfold Addr.add; split <;> simp_all
/-- 's[k:]'. -/
theorem IsSlice.cut {α : Type} {r : Rep α} {w : World} {S : Nat → Prop} {A : Option Addr} {n c k : Nat} {xs : List α} (h : IsSlice r w S (.slice A n c) xs) (hk : k ≤ n) :
    IsSlice r w S (.slice (if c = k then A else A.map (·.add (k * r.size))) (n - k) (c - k)) (xs.drop k) := by
  obtain ⟨A', n', c', hv, h1, h2, h3, h4⟩ := h
  injection hv with e1 e2 e3
  subst e1 e2 e3
  refine ⟨_, _, _, rfl, by omega, by omega, by rw [List.length_drop, h3], fun hn => ?_⟩
  obtain ⟨b, off, rfl, hb, hj⟩ := h4 (by omega)
  rw [if_neg (by omega)]
  refine ⟨b, off + k * r.size, by simp [add_eq], hb, fun j hj' => ?_⟩
  obtain ⟨ds, h5, h6⟩ := hj (k + j) (by rw [List.length_drop] at hj'; omega)
  refine ⟨ds, by rw [List.getElem_drop]; exact h5, fun i hi => ?_⟩
  rw [← h6 i hi]
  congr 2
  rw [Nat.add_mul]
  omega

/-- The operation that cuts so, as the walk takes it. -/
theorem cut_from {P : Program} {t e bytes : Nat} {r : Rep α} {w0 : World} {S : Nat → Prop} {A : Option Addr} {n c k : Nat} {xs : List α} (ht : P.underlying t = some (.slice e)) (hi : ElemInfo P e r.size bytes)
    (h : IsSlice r w0 S (.slice A n c) xs) (hk : k ≤ n) :
    ∃ A', (∀ w, (Instr.sliceAt t (.slice A n c) (some (.int .i64 (k : Int))) none none).run P w = .ok (.slice A' (n - k) (c - k)) w) ∧ IsSlice r w0 S (.slice A' (n - k) (c - k)) (xs.drop k) := by
  refine ⟨_, fun w => ?_, h.cut hk⟩
  have he : P.elem t = e := by simp [Program.elem, ht]
  obtain ⟨i, z, hi1, hz, hsize, hby, hzs⟩ := hi.ex
  have hs : (sizeOf (P.elem t)).run P w = .ok r.size w := by rw [he]; simp [sizeOf, typeInfo, hi1, hsize]
  rw [run_sliceAt_slice w t _ _ _ _ (by rw [he]; exact ht), run_slice_l w t A n c (by rw [he]; exact ht) .i64 k (by omega) (by omega), hs]
  simp [Result.andThen, sliced]

/-- 's[:k]'. -/
theorem cut_to {P : Program} {t e bytes : Nat} {r : Rep α} {w0 : World} {S : Nat → Prop} {A : Option Addr} {n c k : Nat} {xs : List α} (ht : P.underlying t = some (.slice e)) (hi : ElemInfo P e r.size bytes)
    (h : IsSlice r w0 S (.slice A n c) xs) (hk : k ≤ n) :
    ∃ A', (∀ w, (Instr.sliceAt t (.slice A n c) none (some (.int .i64 (k : Int))) none).run P w = .ok (.slice A' k c) w) ∧ IsSlice r w0 S (.slice A' k c) (xs.take k) := by
  obtain ⟨A', n', c', hv, h1, h2, h3, h4⟩ := h
  injection hv with e1 e2 e3
  subst e1 e2 e3
  refine ⟨if c = 0 then A else A.map (·.add (0 * r.size)), fun w => ?_, _, k, c, rfl, by omega, h2, by rw [List.length_take]; omega, fun hn => ?_⟩
  · have he : P.elem t = e := by simp [Program.elem, ht]
    obtain ⟨i, z, hi1, hz, hsize, hby, hzs⟩ := hi.ex
    have hs : (sizeOf (P.elem t)).run P w = .ok r.size w := by rw [he]; simp [sizeOf, typeInfo, hi1, hsize]
    rw [run_sliceAt_slice w t _ _ _ _ (by rw [he]; exact ht), run_slice_h w t A n c (by rw [he]; exact ht) .i64 k (by omega) (by omega), hs]
    simp [Result.andThen, sliced]
  · obtain ⟨b, off, rfl, hb, hj⟩ := h4 (by omega)
    rw [if_neg (by omega)]
    refine ⟨b, off, by simp [Addr.add], hb, fun j hj' => ?_⟩
    obtain ⟨ds, h5, h6⟩ := hj j (by rw [List.length_take] at hj'; omega)
    exact ⟨ds, by rw [List.getElem_take]; exact h5, h6⟩

/-- The law of append: onto a row of the call's own, of whatever slice that reads as a list. -/
theorem run_app {P : Program} {r : Rep α} {w : World} (base : Nat) (t ty e : TypeId) (bytes : Nat) (ht : P.underlying t = some (.slice e)) (hi : ElemInfo P e r.size bytes) (hsz : 0 < r.size)
    (v : Value) (xs : List α) (hown : Own r e base w v xs) (u : Value) (news : List α) (hu : SliceIn r w (nb w v) (el base w v) u news)
    (hbytes : (xs.length + news.length) * bytes ≤ 140737488355328) (h63 : xs.length + news.length ≤ maxLen) (hbase : base ≤ w.heap.size) :
    ∃ v' w', (Builtin.append_ #[t, t] ty #[v, u]).run P w = .ok v' w' ∧ Own r e base w' v' (xs ++ news) ∧ w.grownBy w' v.ownBlock ∧ (v'.ownBlock = v.ownBlock ∨ v'.ownBlock = some w.heap.size) := by
  obtain ⟨i, z, hi1, hz, hsize, hby, hzs⟩ := hi.ex
  obtain ⟨ys, h1, h2⟩ := hown
  obtain ⟨A, m, c, rfl, hmc, hcm, hlen, hrow⟩ := hu
  by_cases hm : news = []
  · subst hm
    have hm : m = 0 := by simpa using hlen.symm
    subst hm
    have hrun : ∃ v' w', (Builtin.append_ #[t, t] ty #[v, .slice A 0 c]).run P w = .ok v' w' ∧ w'.ownsRow base e r.size v' xs.length ys ∧ w.grownBy w' v.ownBlock ∧ (v'.ownBlock = v.ownBlock ∨ v'.ownBlock = some w.heap.size) := by
      rcases A with _ | ad
      · refine ⟨v, w, ?_, h1, World.grownBy.refl w _, .inl rfl⟩
        rcases h1.2 with ⟨rfl, _⟩ | ⟨g, cap, cur, rfl, _, _, hnc, _⟩
        · simp [Builtin.append_, run_underlying ht, sizeOf, typeInfo, hi1, Builtin.lenOf, Builtin.firstCells]
        · simp [Builtin.append_, run_underlying ht, sizeOf, typeInfo, hi1, Builtin.lenOf, Builtin.firstCells, hnc, storeCells]
      · obtain ⟨v', w', e1, e2, e3, _, e5⟩ := run_append_own_at (P := P) w base t ty e i z r.size bytes ht hi1 hz hsize hby hzs hsz v xs.length ys h1 ad 0 c [] (by simp) (by simp) (by simp) (by simpa using h63) (by simpa using hbytes) hbase
        exact ⟨v', w', e1, by simpa using e2, e3, e5⟩
    obtain ⟨v', w', e1, e2, e3, e4⟩ := hrun
    refine ⟨v', w', e1, ⟨ys, by simpa using e2, fun j hj => ?_⟩, e3, e4⟩
    have hj' : j < xs.length := by simpa using hj
    have hk := h2 j hj'
    simp only [List.append_nil]
    refine r.keep hk fun b hb => ⟨⟨hb.1, Nat.lt_of_lt_of_le hb.2.1 e3.size, ?_⟩, fun o => World.cell?_of_block (e3.block b hb.2.1 (fun e => hb.2.2 e.symm))⟩
    rcases e4 with e4 | e4 <;> rw [e4]
    · exact hb.2.2
    · intro e
      have := hb.2.1
      injection e with e
      omega
  · have hm0 : 0 < m := by rw [← hlen]; exact List.length_pos_iff.2 hm
    obtain ⟨b, off, rfl, hSb, hel⟩ := hrow hm0
    -- the cells of all elements, one behind the other
    have key : ∀ (l : List α) (j0 : Nat), (∀ j (h : j < l.length), ∃ ds, r.holds w (el base w v) ds l[j] ∧ ∀ i (hi : i < ds.length), w.cell? ⟨b, off + (j0 + j) * r.size + i, none⟩ = some ds[i]) →
        ∃ zs : List Value, zs.length = l.length * r.size ∧ (∀ i (hi : i < zs.length), w.cell? ⟨b, off + j0 * r.size + i, none⟩ = some zs[i]) ∧ (∀ u ∈ zs, u.oneCell' = true) ∧
          ∀ j (h : j < l.length), r.holds w (el base w v) ((zs.drop (j * r.size)).take r.size) l[j] := by
      intro l
      induction l with
      | nil => intro j0 _; exact ⟨[], by simp, by simp, by simp, by simp⟩
      | cons x l ih =>
        intro j0 hl
        obtain ⟨ds, hds, hc⟩ := hl 0 (by simp)
        obtain ⟨zs, g1, g2, g3, g4⟩ := ih (j0 + 1) (fun j hj => by
          obtain ⟨ds, a1, a2⟩ := hl (j + 1) (by simp; omega)
          refine ⟨ds, by simpa using a1, fun i hi => ?_⟩
          have := a2 i hi
          rwa [show j0 + 1 + j = j0 + (j + 1) from by omega])
        have hdl := r.len hds
        refine ⟨ds ++ zs, by simp [hdl, g1, Nat.add_mul]; omega, fun i hi => ?_, fun u hu => ?_, fun j hj => ?_⟩
        · by_cases hi' : i < ds.length
          · rw [List.getElem_append_left hi']
            have := hc i hi'
            simpa using this
          · rw [List.getElem_append_right (by omega)]
            have := g2 (i - ds.length) (by simp at hi; omega)
            rw [← this]
            congr 2
            rw [Nat.add_mul, hdl]
            omega
        · rcases List.mem_append.1 hu with hu | hu
          · exact r.one hds u hu
          · exact g3 u hu
        · rcases j with _ | j
          · simpa [List.take_append_of_le_length (Nat.le_of_eq hdl.symm), ← hdl] using hds
          · have := g4 j (by simpa using hj)
            have e : (ds ++ zs).drop ((j + 1) * r.size) = zs.drop (j * r.size) := by
              rw [show (j + 1) * r.size = ds.length + j * r.size from by rw [Nat.add_mul, hdl]; omega, List.drop_length_add_append]
            simpa [e] using this
    obtain ⟨zs, g1, g2, g3, g4⟩ := key news 0 (by simpa using hel)
    obtain ⟨v', w', e1, e2, e3, _, e5⟩ := run_append_own_at (P := P) w base t ty e i z r.size bytes ht hi1 hz hsize hby hzs hsz v xs.length ys h1 ⟨b, off, none⟩ m c zs (by rw [g1, hlen])
      (fun j u hu => by
        have hj := (List.getElem?_eq_some_iff.1 hu).1
        have := g2 j hj
        simp only [Nat.zero_mul, Nat.add_zero] at this
        have hu' := (List.getElem?_eq_some_iff.1 hu).2
        rw [hu'] at this
        rw [← this]
        unfold Addr.add
        split <;> simp_all) g3 (by rw [← hlen]; exact h63) (by rw [← hlen]; exact hbytes) hbase
    have hw : ∀ b, el base w v b → el base w' v' b ∧ ∀ o, w'.cell? ⟨b, o, none⟩ = w.cell? ⟨b, o, none⟩ := by
      intro b hb
      refine ⟨⟨hb.1, Nat.lt_of_lt_of_le hb.2.1 e3.size, ?_⟩, fun o => World.cell?_of_block (e3.block b hb.2.1 (fun e => hb.2.2 e.symm))⟩
      rcases e5 with e5 | e5 <;> rw [e5]
      · exact hb.2.2
      · intro e
        have := hb.2.1
        injection e with e
        omega
    refine ⟨v', w', e1, ⟨ys ++ zs, by rw [List.length_append, hlen]; exact e2, fun j hj => ?_⟩, e3, e5⟩
    have hyl : ys.length = xs.length * r.size := h1.1
    by_cases hj' : j < xs.length
    · rw [List.getElem_append_left hj']
      have h3 := r.keep (h2 j hj') hw
      have hle : (j + 1) * r.size ≤ xs.length * r.size := Nat.mul_le_mul_right _ (by omega)
      rw [Nat.add_mul] at hle
      rwa [List.drop_append_of_le_length (by omega), List.take_append_of_le_length (by rw [List.length_drop]; omega)]
    · rw [List.getElem_append_right (by omega)]
      have h3 := r.keep (g4 (j - xs.length) (by simp at hj; omega)) hw
      have e : (ys ++ zs).drop (j * r.size) = zs.drop ((j - xs.length) * r.size) := by
        rw [show j * r.size = ys.length + (j - xs.length) * r.size from by rw [hyl, ← Nat.add_mul]; congr 1; omega, List.drop_length_add_append]
      rwa [e]

section
variable {P : Program} {r : Rep α} {w : World} {ops : Array Oper} {rest : List Oper} {o : Oper} {a : Act} {K : Act → World → Prop} {Q : Exit → Act → World → Prop}

theorem wp_app {base : Nat} {t e : TypeId} {bytes : Nat} {v u : Value} {xs news : List α} (s x : Operand)
    (ho : o.op = .call { callee := .builtin .append, args := #[s, x], argTypes := #[t, t] }) (ht : P.underlying t = some (.slice e)) (hi : ElemInfo P e r.size bytes) (hsz : 0 < r.size)
    (hown : Own r e base w v xs) (hu : SliceIn r w (nb w v) (el base w v) u news) (hs : a.eval s = v) (hx : a.eval x = u)
    (hbytes : (xs.length + news.length) * bytes ≤ 140737488355328) (h63 : xs.length + news.length ≤ maxLen) (hbase : base ≤ w.heap.size)
    (h : ∀ v' w', Own r e base w' v' (xs ++ news) → w.grownBy w' v.ownBlock → (v'.ownBlock = v.ownBlock ∨ v'.ownBlock = some w.heap.size) → K (a.put o.dst v') w') : o.wp P a w K Q := by
  obtain ⟨v', w', hrun, h2, h3, h4⟩ := run_app (P := P) base t o.type e bytes ht hi hsz v xs hown u news hu hbytes h63 hbase
  unfold Oper.wp execOp
  simp only [ho, resolve, invoke, builtin, Sem.run_bind, Sem.run_pure, Result.andThen_ok, List.map_toArray, List.map_cons, List.map_nil, hs, hx, hrun]
  exact h v' w' h2 h3 h4

theorem wpl_app {base : Nat} {t e : TypeId} {bytes : Nat} {v u : Value} {xs news : List α} (s x : Operand) (hgd : o.guard = none)
    (ho : o.op = .call { callee := .builtin .append, args := #[s, x], argTypes := #[t, t] }) (ht : P.underlying t = some (.slice e)) (hi : ElemInfo P e r.size bytes) (hsz : 0 < r.size)
    (hown : Own r e base w v xs) (hu : SliceIn r w (nb w v) (el base w v) u news) (hs : a.eval s = v) (hx : a.eval x = u)
    (hbytes : (xs.length + news.length) * bytes ≤ 140737488355328) (h63 : xs.length + news.length ≤ maxLen) (hbase : base ≤ w.heap.size)
    (h : ∀ v' w', Own r e base w' v' (xs ++ news) → w.grownBy w' v.ownBlock → (v'.ownBlock = v.ownBlock ∨ v'.ownBlock = some w.heap.size) → wpList P ops Q rest (a.put o.dst v') w') : wpList P ops Q (o :: rest) a w :=
  wpList_plain hgd fun _ hK => wp_app s x ho ht hi hsz hown hu hs hx hbytes h63 hbase fun v' w' h2 h3 h4 => hK _ _ (h v' w' h2 h3 h4)

/-- The one element that 'append(out, x)' lays into a new block ahead of it. -/
theorem isSlice_one {base : Nat} {cs : Array Value} {e : TypeId} {v : Value} {x : α} (h : r.holds w (el base w v) cs.toList x) (hv : ∀ k, v.ownBlock = some k → k < w.heap.size) :
    SliceIn r (w.alloc (.cells cs e)) (nb (w.alloc (.cells cs e)) v) (el base (w.alloc (.cells cs e)) v) (.slice (some ⟨w.heap.size, 0, none⟩) 1 1) [x] := by
  refine ⟨_, 1, 1, rfl, Nat.le_refl _, by simp [maxLen], rfl, fun _ => ⟨w.heap.size, 0, rfl, ⟨by simp, fun e => by have := hv _ e; omega⟩, fun j hj => ?_⟩⟩
  obtain rfl : j = 0 := by simpa using hj
  refine ⟨cs.toList, r.keep h fun b hb => ⟨⟨hb.1, by have := hb.2.1; simp; omega, hb.2.2⟩, fun o => World.cell?_alloc_lt w _ _ hb.2.1⟩, fun i hi => ?_⟩
  rw [show 0 + 0 * r.size + i = i from by omega]
  have := cell_of_row (w.alloc (.cells cs e)) w.heap.size i cs e (0, 0) (heap_alloc_new w _)
  rw [this, ← Array.getElem?_toList, List.getElem?_eq_getElem hi]
/-- .. as a list by itself. -/
theorem isSlice_lit1 {cs : Array Value} {e : TypeId} {x : α} (h : r.holds w (all w) cs.toList x) : IsSlice r (w.alloc (.cells cs e)) (all (w.alloc (.cells cs e))) (.slice (some ⟨w.heap.size, 0, none⟩) 1 1) [x] := by
  refine ⟨_, 1, 1, rfl, Nat.le_refl _, by simp [maxLen], rfl, fun _ => ⟨w.heap.size, 0, rfl, by simp [all], fun j hj => ?_⟩⟩
  obtain rfl : j = 0 := by simpa using hj
  refine ⟨cs.toList, r.ext h (ext_alloc w _), fun i hi => ?_⟩
  rw [show 0 + 0 * r.size + i = i from by omega]
  have := cell_of_row (w.alloc (.cells cs e)) w.heap.size i cs e (0, 0) (heap_alloc_new w _)
  rw [this, ← Array.getElem?_toList, List.getElem?_eq_getElem hi]

/-- 'append(out, x)': behind the new block. -/
theorem wpl_app1 {base g : Nat} {t e : TypeId} {bytes : Nat} {v : Value} {xs : List α} {x : α} {cs : Array Value} (s y : Operand) (hgd : o.guard = none)
    (ho : o.op = .call { callee := .builtin .append, args := #[s, y], argTypes := #[t, t] }) (ht : P.underlying t = some (.slice e)) (hi : ElemInfo P e r.size bytes) (hsz : 0 < r.size)
    (hown : Own r e base w v xs) (hs : a.eval s = v) (hx : a.eval y = .slice (some ⟨g, 0, none⟩) 1 1) (hg : g = w.heap.size) (hu : r.holds w (el base w v) cs.toList x)
    (hbytes : (xs.length + 1) * bytes ≤ 140737488355328) (h63 : xs.length + 1 ≤ maxLen) (hbase : base ≤ w.heap.size)
    (h : ∀ v' w', Own r e base w' v' (xs ++ [x]) → w.grownBy w' v.ownBlock → wpList P ops Q rest (a.put o.dst v') w') : wpList P ops Q (o :: rest) a (w.alloc (.cells cs e)) := by
  subst hg
  refine wpl_app s y hgd ho ht hi hsz (hown.ext (ext_alloc w _)) (isSlice_one hu fun k hk => (hown.lt k hk).2) hs hx hbytes h63 (by simp; omega) fun v' w' h1 h2 _ => h v' w' h1 ?_
  refine ⟨h2.os, h2.tape, h2.output, Nat.le_trans (by simp) h2.size, fun k hk hne => (h2.block k (by simp; omega) hne).trans (Below.heap_alloc w _ k hk)⟩

/-- A row that a literal has just laid. -/
theorem own_lit {base : Nat} {e : TypeId} {cs : Array Value} {xs : List α} (hbase : base ≤ w.heap.size) (hm : xs.length ≤ maxLen) (hs : cs.size = xs.length * r.size)
    (h : ∀ j (h : j < xs.length), r.holds w (fun b => base ≤ b ∧ b < w.heap.size) ((cs.toList.drop (j * r.size)).take r.size) xs[j]) :
    Own r e base (w.alloc (.cells cs e)) (.slice (some ⟨w.heap.size, 0, none⟩) xs.length xs.length) xs :=
  ⟨cs.toList, World.ownsRow_lit w cs xs.length hbase hm hs, fun j hj => r.keep (h j hj) fun b hb => ⟨⟨hb.1, by have := hb.2; simp; omega, by
    have := hb.2
    intro e
    simp [Value.ownBlock] at e
    omega⟩, fun o => World.cell?_alloc_lt w _ _ hb.2⟩⟩
theorem own_lit1 {base : Nat} {e : TypeId} {cs : Array Value} {x : α} (hbase : base ≤ w.heap.size) (h : r.holds w (fun b => base ≤ b ∧ b < w.heap.size) cs.toList x) :
    Own r e base (w.alloc (.cells cs e)) (.slice (some ⟨w.heap.size, 0, none⟩) 1 1) [x] := by
  have hl : cs.size = r.size := by rw [← Array.length_toList]; exact r.len h
  refine own_lit (xs := [x]) hbase (by simp [maxLen]) (by simpa using hl) fun j hj => ?_
  obtain rfl : j = 0 := by simpa using hj
  rw [Nat.zero_mul, List.drop_zero, List.take_of_length_le (by rw [Array.length_toList, hl]; exact Nat.le_refl _)]
  exact h

/-- 'append([]T{x}, l...)': behind the new block. -/
theorem wpl_app_lit1 {base g : Nat} {t e : TypeId} {bytes : Nat} {u : Value} {news : List α} {x : α} {cs : Array Value} (s y : Operand) (hgd : o.guard = none)
    (ho : o.op = .call { callee := .builtin .append, args := #[s, y], argTypes := #[t, t] }) (ht : P.underlying t = some (.slice e)) (hi : ElemInfo P e r.size bytes) (hsz : 0 < r.size)
    (hf : Flat r) (hu : IsSlice r w (all w) u news) (hs : a.eval s = .slice (some ⟨g, 0, none⟩) 1 1) (hg : g = w.heap.size) (hx : a.eval y = u) (hlit : r.holds w (all w) cs.toList x)
    (hbytes : (1 + news.length) * bytes ≤ 140737488355328) (h63 : 1 + news.length ≤ maxLen) (hbase : base ≤ w.heap.size)
    (h : ∀ v' w', Own r e base w' v' (x :: news) → Ext w w' → wpList P ops Q rest (a.put o.dst v') w') : wpList P ops Q (o :: rest) a (w.alloc (.cells cs e)) := by
  subst hg
  refine wpl_app s y hgd ho ht hi hsz (own_lit1 hbase (hf _ _ _ _ _ _ hlit)) ((hu.off (v := .slice (some ⟨w.heap.size, 0, none⟩) 1 1) (ext_alloc w _) (by simp [Value.ownBlock])).flat hf) hs hx (by simpa using hbytes) (by simpa using h63) (by simp; omega) fun v' w' h1 h2 _ => h v' w' h1 ?_
  · refine ⟨h2.os, h2.tape, h2.output, Nat.le_trans (by simp) h2.size, fun k hk => (h2.block k (by simp; omega) ?_).trans (Below.heap_alloc w _ k hk)⟩
    simp [Value.ownBlock]
    omega

/-- Behind 'make([]T, 0, n)'. -/
theorem own_made {base : Nat} {e : TypeId} {v : Value} (h : w.ownsRow base e r.size v 0 []) : Own r e base w v ([] : List α) := ⟨[], h, fun j hj => absurd hj (by simp)⟩

/-- 'make([]T, 0, n)'. -/
theorem wpl_make0 {base : Nat} {t e : TypeId} {z : Value} {bytes : Nat} {kl kc : IntKind} {C : Int} (l c : Operand) (n : Nat) (hgd : o.guard = none) (hop : o.op = Op.makeSlice t l c) (ht : P.underlying t = some (.slice e))
    (hi : (P.info? e).map (fun i => (i.zero, i.size, i.bytes)) = some (some z, r.size, bytes)) (hl : a.eval l = .int kl 0) (hc : a.eval c = .int kc C) (hC : C = (n : Int)) (hb : bytes * n ≤ 281474976710656) (hm : n ≤ maxLen) (hbase : base ≤ w.heap.size)
    (h : ∀ v' w', Own r e base w' v' ([] : List α) → Ext w w' → wpList P ops Q rest (a.put o.dst v') w') : wpList P ops Q (o :: rest) a w := by
  obtain ⟨i0, hi, hz0, hz1, hz2⟩ := info_parts hi
  exact wpList_make_own w hgd l c t hop base e i0 z r.size ht hi hz0 hz1 kl kc C n hl hc hC (by rw [hz2]; exact hb) hm hbase fun w' h1 h2 => h _ w' (own_made h1) ⟨h2.os, h2.tape, h2.output, h2.size, fun k hk => h2.block k hk (by simp)⟩

/-- A literal's elements, one cell each. -/
def Holds1 (r : Rep α) (w : World) (S : Nat → Prop) : List Value → List α → Prop
  | [], [] => True
  | u :: us, x :: xs => r.holds w S [u] x ∧ Holds1 r w S us xs
  | _, _ => False
theorem Holds1.at_ {S : Nat → Prop} : ∀ {us : List Value} {xs : List α}, Holds1 r w S us xs → us.length = xs.length ∧ ∀ j (h : j < xs.length), r.holds w S ((us.drop j).take 1) xs[j]
  | [], [], _ => ⟨rfl, fun j h => absurd h (by simp)⟩
  | [], _ :: _, h => h.elim
  | _ :: _, [], h => h.elim
  | u :: us, x :: xs, ⟨h1, h2⟩ => by
    obtain ⟨h3, h4⟩ := Holds1.at_ h2
    refine ⟨by simp [h3], fun j hj => ?_⟩
    rcases j with _ | j
    · simpa using h1
    · simpa using h4 j (by simpa using hj)
theorem holds1_ext {w' : World} : ∀ {us : List Value} {xs : List α}, Holds1 r w (all w) us xs → Ext w w' → Holds1 r w' (all w') us xs
  | [], [], _, _ => trivial
  | [], _ :: _, h, _ => h.elim
  | _ :: _, [], h, _ => h.elim
  | _ :: _, _ :: _, ⟨h1, h2⟩, he => ⟨r.ext h1 he, holds1_ext h2 he⟩
theorem own_lits {base : Nat} {e : TypeId} {us : List Value} {xs : List α} (hr : r.size = 1) (h : Holds1 r w (fun b => base ≤ b ∧ b < w.heap.size) us xs) (hm : xs.length ≤ maxLen) (hbase : base ≤ w.heap.size) {n g : Nat} (hn : n = xs.length) (hg : g = w.heap.size) :
    Own r e base (w.alloc (.cells us.toArray e)) (.slice (some ⟨g, 0, none⟩) n n) xs := by
  subst hn hg
  obtain ⟨h1, h2⟩ := h.at_
  exact own_lit hbase hm (by simp [h1, hr]) fun j hj => by
    rw [hr, Nat.mul_one]
    exact h2 j hj
theorem isSlice_lits {e : TypeId} {fz : Nat × Nat} {us : List Value} {xs : List α} (hr : r.size = 1) (h : Holds1 r w (all w) us xs) (hm : xs.length ≤ maxLen) {n g : Nat} (hn : n = xs.length) (hg : g = w.heap.size) :
    IsSlice r (w.alloc (.cells us.toArray e fz)) (all (w.alloc (.cells us.toArray e fz))) (.slice (some ⟨g, 0, none⟩) n n) xs := by
  subst hn hg
  obtain ⟨h1, h2⟩ := h.at_
  refine ⟨_, _, _, rfl, Nat.le_refl _, hm, rfl, fun _ => ⟨w.heap.size, 0, rfl, by simp [all], fun j hj => ⟨_, r.ext (h2 j hj) (ext_alloc w _), fun i hi => ?_⟩⟩⟩
  have hl := r.len (h2 j hj)
  rw [hr] at hl ⊢
  obtain rfl : i = 0 := by omega
  rw [show 0 + j * 1 + 0 = j from by omega, cell_of_row _ _ _ _ _ _ (heap_alloc_new w _)]
  simp only [List.getElem?_toArray, List.getElem_take, List.getElem_drop, Nat.add_zero]
  rw [List.getElem?_eq_getElem (by omega)]

end
end Go.Proofs.YtimlbebockfioaaDoor
