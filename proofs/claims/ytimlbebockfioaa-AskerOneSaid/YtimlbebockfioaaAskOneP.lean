/- The law AskerOne: its plain part. -/
import Derived.Test.YtimlbebockfioaaAskOk
import Derived.Test.YtimlbebockfioaaAskAct
import Derived.Test.YtimlbebockfioaaAsk5
namespace Go.Proofs.Ytimlbebockfioaa
open Go.RowKit

/-- One act of the law: what the asker comes to, and what it sends. -/
def actK (most room : Int) (s : Ak) (x : Aa) : Ak × List Tk :=
  if x.kind = 0 then (if 64 < x.m.length ∨ room ≤ (s.q.length : Int) then (s, []) else ((sendK s x.m).1, []))
  else if x.kind = 1 then tickK most s
  else if x.kind = 2 then takeK s x.p
  else (s, [])
theorem actK_ok {most room : Int} {s : Ak} (h : AkOk most room s) (hm : 1 ≤ most) (x : Aa) : AkOk most room (actK most room s x).1 := by
  unfold actK
  split
  · split
    · exact h
    · rename_i hn
      exact send_okK h hm x.m (by omega) (by omega)
  · split
    · exact tick_okK h hm
    · split
      · exact take_okK h hm x.p
      · exact h
theorem beginK_told (s : Ak) : (beginK s).told = s.told := rfl
theorem onK_told (s : Ak) (o : Int) : (onK s o).1.told = s.told ++ [o] := by
  unfold onK
  split <;> rfl
theorem sendK_told (s : Ak) (m : List UInt8) : (sendK s m).1.told = s.told := by
  unfold sendK
  split <;> rfl
theorem tickK_told (most : Int) (s : Ak) : (tickK most s).1.told = s.told := by
  unfold tickK
  split <;> rfl
theorem onK_D (s : Ak) (o : Int) : (onK s o).1.D = s.D := by
  unfold onK
  split <;> rfl
theorem actK_D (most room : Int) (s : Ak) (x : Aa) : (actK most room s x).1.D = s.D := by
  unfold actK tickK takeK sendK
  repeat' split
  all_goals first | rfl | exact onK_D _ _
theorem onK_acc (s : Ak) (o : Int) : (onK s o).1.acc = s.acc := by
  unfold onK
  split <;> rfl
theorem actK_acc (most room : Int) (s : Ak) (x : Aa) : (actK most room s x).1.acc ≤ s.acc + 1 := by
  unfold actK tickK takeK sendK
  repeat' split
  all_goals first | exact Nat.le_succ _ | exact Nat.le_refl _ | (rw [onK_acc]; exact Nat.le_succ _)
theorem asksK_kind {s : Ak} {t : Tk} (h : t ∈ asksK s) : t.kind = 0 := by
  rw [List.mem_singleton.1 h]
theorem onK_kind {s : Ak} {o : Int} {t : Tk} (h : t ∈ (onK s o).2) : t.kind = 0 := by
  unfold onK at h
  split at h
  · cases h
  · exact asksK_kind h
theorem tickK_kind {most : Int} {s : Ak} {t : Tk} (h : t ∈ (tickK most s).2) : t.kind = 0 := by
  unfold tickK at h
  split at h
  · cases h
  · dsimp only at h
    split at h
    · cases h
    · exact asksK_kind h
/-- A data token is sent but for a challenge that it answers. -/
theorem actK_data {most room : Int} {s : Ak} {x : Aa} {t : Tk} (h : t ∈ (actK most room s x).2) (h2 : t.kind = 2) :
    x.kind = 2 ∧ t.t = s.t ∧ t.c = x.p.c ∧ (s.bound = true → s.r = x.p.r) ∧ (actK most room s x).1.bound = true ∧ (actK most room s x).1.r = x.p.r := by
  unfold actK at h ⊢
  by_cases k0 : x.kind = 0
  · rw [if_pos k0] at h
    split at h <;> cases h
  · rw [if_neg k0] at h ⊢
    by_cases k1 : x.kind = 1
    · rw [if_pos k1] at h
      have := tickK_kind h
      omega
    · rw [if_neg k1] at h ⊢
      by_cases k2 : x.kind = 2
      · rw [if_pos k2] at h ⊢
        unfold takeK at h ⊢
        by_cases c1 : s.q = [] ∨ x.p.t ≠ s.t
        · rw [if_pos c1] at h; cases h
        · rw [if_neg c1] at h ⊢
          by_cases c2 : x.p.kind = 3
          · rw [if_pos c2] at h
            have := onK_kind h
            omega
          · rw [if_neg c2] at h ⊢
            by_cases c3 : x.p.kind = 1
            · rw [if_pos c3] at h ⊢
              by_cases c4 : s.bound = true ∧ x.p.r ≠ s.r
              · rw [if_pos c4] at h
                have := onK_kind h
                omega
              · rw [if_neg c4] at h ⊢
                have e := List.mem_singleton.1 h
                subst e
                exact ⟨k2, rfl, rfl, fun hb => Classical.byContradiction fun hc => c4 ⟨hb, fun e => hc e.symm⟩, rfl, rfl⟩
            · rw [if_neg c3] at h; cases h
      · rw [if_neg k2] at h; cases h
/-- At most one more is told; and what is told. -/
theorem actK_told {most room : Int} {s : Ak} {x : Aa} :
    (actK most room s x).1.told = s.told ∨ ∃ o, (actK most room s x).1.told = s.told ++ [o] ∧ (o = 1 ∨ o = 2 ∧ x.p.kind = 1 ∧ s.bound = true ∧ s.r ≠ x.p.r ∧ s.t = x.p.t) := by
  unfold actK
  by_cases k0 : x.kind = 0
  · rw [if_pos k0]
    split
    · exact .inl rfl
    · exact .inl (sendK_told _ _)
  · rw [if_neg k0]
    by_cases k1 : x.kind = 1
    · rw [if_pos k1]
      exact .inl (tickK_told _ _)
    · rw [if_neg k1]
      by_cases k2 : x.kind = 2
      · rw [if_pos k2]
        unfold takeK
        by_cases c1 : s.q = [] ∨ x.p.t ≠ s.t
        · rw [if_pos c1]; exact .inl rfl
        · rw [if_neg c1]
          by_cases c2 : x.p.kind = 3
          · rw [if_pos c2]
            exact .inr ⟨1, onK_told _ _, .inl rfl⟩
          · rw [if_neg c2]
            by_cases c3 : x.p.kind = 1
            · rw [if_pos c3]
              by_cases c4 : s.bound = true ∧ x.p.r ≠ s.r
              · rw [if_pos c4]
                exact .inr ⟨2, onK_told _ _, .inr ⟨rfl, c3, c4.1, fun e => c4.2 e.symm, (Classical.byContradiction fun hc => c1 (.inr fun e => hc e.symm))⟩⟩
              · rw [if_neg c4]; exact .inl rfl
            · rw [if_neg c3]; exact .inl rfl
      · rw [if_neg k2]; exact .inl rfl
/-- What Poll answers for the one more. -/
theorem pollK_told {s s' : Ak} {most room : Int} (ok : AkOk most room s') {o : Int} (h : s'.told = s.told ++ [o]) : pollK s' (s.told.length : Int) = (o, 0) := by
  have hl : s'.told.length = s.told.length + 1 := by rw [h]; simp
  have ha := ok.acc
  unfold pollK
  rw [if_neg (by omega), if_pos (by omega), Int.toNat_natCast, h]
  simp
end Go.Proofs.Ytimlbebockfioaa
