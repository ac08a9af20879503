/- The asker: what each act keeps. No program in sight. -/
import Derived.Test.YtimlbebockfioaaAskPlain
import Derived.Test.YtimlbebockfioaaPushPlain
namespace Go.Proofs.Ytimlbebockfioaa
open Go.RowKit

section
variable {most room : Int} {s : Ak}
theorem nextV_wf {D : List Int} {n : Nat} (h : ∀ d ∈ D, (Lit.int .u64 d).wf = true) (hn : n ≤ 100000) : (Lit.int .u64 (nextV D n)).wf = true := by
  unfold nextV
  split
  · exact h _ (List.getElem_mem _)
  · exact WalkArith.wf_u64 ⟨by omega, by omega⟩
theorem tset_one {T : List Tm} (h : ∀ t ∈ T, t.key = 0) (hl : T.length ≤ 1) : (tset T ⟨0, 1, 1⟩).length ≤ 1 ∧ ∀ t ∈ tset T ⟨0, 1, 1⟩, t.key = 0 := by
  match T, hl with
  | [], _ => exact ⟨by simp [tset], by simp [tset]⟩
  | [t], _ =>
    have ht := h t (by simp)
    unfold tset
    rw [ht]
    simp
theorem begin_ok (h : TmOk most s.T) (hl : s.T.length ≤ 1) (hk : ∀ t ∈ s.T, t.key = 0) (ha : s.acc = s.told.length + s.q.length) (hc : (s.q.length : Int) ≤ room) (hs : ∀ x ∈ s.q, x.length ≤ 64) (hw : ∀ d ∈ s.D, (Lit.int .u64 d).wf = true) (hm : 1 ≤ most) (hq : 0 < s.q.length) (hu : s.U.length = s.told.length) : AkOk most room (beginK s) := by
  obtain ⟨h1, h2⟩ := tset_one hk hl
  exact ⟨tset_ok h ⟨by show (Lit.int .i64 0).wf = true; decide, Int.le_refl _, Int.le_refl _, hm⟩, h1, h2, ha, hc, hs, hw, by show (s.U ++ [_]).length ≤ s.acc; simp; omega, by show (s.U ++ [_]).length = s.told.length + min 1 s.q.length; simp; omega⟩
theorem send_okK (h : AkOk most room s) (hm : 1 ≤ most) (m : List UInt8) (h64 : m.length ≤ 64) (hr : (s.q.length : Int) < room) : AkOk most room (sendK s m).1 := by
  unfold sendK
  by_cases hq : s.q = []
  · rw [if_pos hq]
    have hql : s.q.length = 0 := by rw [hq]; rfl
    have hun := h.un
    have hac := h.acc
    refine begin_ok h.tm h.tl h.tk ?_ ?_ (fun x hx => ?_) h.wd hm (by simp) ?_
    · show s.acc + 1 = s.told.length + 1; omega
    · show ((1 : Nat) : Int) ≤ room; omega
    · simp at hx; subst hx; exact h64
    · show s.U.length = s.told.length; omega
  · rw [if_neg hq]
    have hq0 : 0 < s.q.length := List.length_pos_iff.2 hq
    have hun := h.un
    have hac := h.acc
    have hud := h.ud
    refine ⟨h.tm, h.tl, h.tk, ?_, ?_, fun x hx => ?_, h.wd, ?_, ?_⟩
    · show s.acc + 1 = s.told.length + (s.q ++ [m]).length; simp; omega
    · show (((s.q ++ [m]).length : Nat) : Int) ≤ room; simp; omega
    · rcases List.mem_append.1 hx with hx | hx
      · exact h.short x hx
      · simp at hx; subst hx; exact h64
    · show s.U.length ≤ s.acc + 1; omega
    · show s.U.length = s.told.length + min 1 (s.q ++ [m]).length; simp; omega
theorem tick_okK (h : AkOk most room s) (hm : 1 ≤ most) : AkOk most room (tickK most s).1 := by
  unfold tickK
  split
  · exact h
  · refine ⟨tickT_ok hm h.tm, ?_, fun t ht => ?_, h.acc, h.cap, h.short, h.wd, h.ud, h.un⟩
    · show (tickT most s.T).length ≤ 1
      have := h.tl
      unfold tickT
      rw [List.length_map]
      exact this
    · have hk : t.key ∈ (tickT most s.T).map (·.key) := List.mem_map.2 ⟨t, ht, rfl⟩
      rw [tickT_keys] at hk
      obtain ⟨t', ht', he⟩ := List.mem_map.1 hk
      rw [← he]
      exact h.tk t' ht'
theorem on_okK (h : AkOk most room s) (hm : 1 ≤ most) (hq : s.q ≠ []) (o : Int) : AkOk most room (onK s o).1 := by
  obtain ⟨x, q, hxq⟩ : ∃ x q, s.q = x :: q := by
    cases hs : s.q with
    | nil => exact absurd hs hq
    | cons x q => exact ⟨x, q, rfl⟩
  have hun := h.un
  have hac := h.acc
  have hud := h.ud
  have hcp := h.cap
  rw [hxq] at hun hac hcp
  simp at hun hac hcp
  by_cases hq0 : q = []
  · have hon : onK s o = (⟨q, tdel s.T 0, s.D, s.U, s.acc, 0, 0, false, s.told ++ [o]⟩, []) := by
      unfold onK
      rw [hxq]
      exact if_pos hq0
    rw [hon]
    subst hq0
    refine ⟨tdel_ok h.tm _, ?_, fun t ht => ?_, ?_, ?_, fun x hx => by simp at hx, h.wd, ?_, ?_⟩
    · show (tdel s.T 0).length ≤ 1
      have := tdel_len s.T 0
      have := h.tl
      omega
    · have hk : t.key ∈ (tdel s.T 0).map (·.key) := List.mem_map.2 ⟨t, ht, rfl⟩
      rw [tdel_keys h.tm.asc] at hk
      obtain ⟨t', ht', he⟩ := List.mem_map.1 hk.2
      rw [← he]
      exact h.tk t' ht'
    · show s.acc = (s.told ++ [o]).length + 0; simp; omega
    · show ((0 : Nat) : Int) ≤ room; omega
    · show s.U.length ≤ s.acc; omega
    · show s.U.length = (s.told ++ [o]).length + 0; simp; omega
  · have hon : onK s o = (beginK ⟨q, s.T, s.D, s.U, s.acc, s.t, s.r, s.bound, s.told ++ [o]⟩, asksK (beginK ⟨q, s.T, s.D, s.U, s.acc, s.t, s.r, s.bound, s.told ++ [o]⟩)) := by
      unfold onK
      rw [hxq]
      exact if_neg hq0
    rw [hon]
    have hq1 : 0 < q.length := List.length_pos_iff.2 hq0
    refine begin_ok h.tm h.tl h.tk ?_ ?_ (fun y hy => h.short y (by rw [hxq]; exact List.mem_cons_of_mem _ hy)) h.wd hm hq1 ?_
    · show s.acc = (s.told ++ [o]).length + q.length; simp; omega
    · show ((q.length : Nat) : Int) ≤ room; omega
    · show s.U.length = (s.told ++ [o]).length; simp; omega
theorem take_okK (h : AkOk most room s) (hm : 1 ≤ most) (x : Tk) : AkOk most room (takeK s x).1 := by
  unfold takeK
  split
  · exact h
  · rename_i hc
    have hq : s.q ≠ [] := fun e => hc (.inl e)
    split
    · exact on_okK h hm hq 1
    · split
      · split
        · exact on_okK h hm hq 2
        · exact ⟨h.tm, h.tl, h.tk, h.acc, h.cap, h.short, h.wd, h.ud, h.un⟩
      · exact h
end
end Go.Proofs.Ytimlbebockfioaa
