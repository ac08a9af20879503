/- A slice that comes in takes no more bytes than the form's reach. -/
import Derived.SizedLaws
import Derived.Test.YtimlbebockfioaaFrame
namespace Go.Proofs.Ytimlbebockfioaa
open Go.RowKit

theorem sized_len {H : Type} {enc : TypeId × Value → H} {P : Program} {W : World} {base m : Nat} {spare : Nat → Bool} {held : Bool} {ts : List TypeId} {ds : List (DataW H)} {t e : TypeId} {A : Option Addr} {n c j : Nat} {d : DataW H} {p : List MemPlace}
    (ht : P.underlying t = some (.slice e)) (h : DataW.trod enc P W base spare held m t [.slice A n c] = some (d, p))
    (hz : (DataW.weightsEach P ts ds).all (· ≤ reachBytes) = true) (hts : ts[j]? = some t) (hds : ds[j]? = some d) : n * P.bytesOf e ≤ reachBytes := by
  rcases Go.Deep.open_slice ht h with ⟨h1, _⟩ | ⟨a, len, cap, m', n', D, Pl, h1, _, _, _, _, h2, _⟩
  · injection h1 with h1 _
    injection h1 with _ h1 _
    subst h1
    simp
  · injection h1 with h1 _
    injection h1 with _ h1 _
    subst h1
    have h3 : d = _ := congrArg Prod.fst h2
    rw [h3] at hds
    have := sized_slice hz hts hds ht
    simp only [List.length_map, List.length_range] at this
    exact Nat.le_trans (Nat.mul_le_mul_right _ (by omega)) this
end Go.Proofs.Ytimlbebockfioaa
