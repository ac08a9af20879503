/- The asker in plain words. No program in sight. -/
import Derived.Test.YtimlbebockfioaaTimerPlain
import Derived.Test.YtimlbebockfioaaTok
import Derived.Test.YtimlbebockfioaaNonce
namespace Go.Proofs.Ytimlbebockfioaa
open Go.RowKit

/-- What an asker is at: the messages that wait; the timers; the numbers handed in, and drawn; the state. -/
structure Ak where
  q : List (List UInt8)
  T : List Tm
  D : List Int
  U : List Int
  acc : Nat
  t : Int
  r : Int
  bound : Bool
  told : List Int
def asksK (s : Ak) : List Tk := [⟨0, s.t, 0, 0, []⟩]
def beginK (s : Ak) : Ak := ⟨s.q, tset s.T ⟨0, 1, 1⟩, s.D, s.U ++ [nextV s.D s.U.length], s.acc, nextV s.D s.U.length, 0, false, s.told⟩
def sendK (s : Ak) (m : List UInt8) : Ak × List Tk :=
  if s.q = [] then (beginK ⟨[m], s.T, s.D, s.U, s.acc + 1, s.t, s.r, s.bound, s.told⟩, asksK (beginK ⟨[m], s.T, s.D, s.U, s.acc + 1, s.t, s.r, s.bound, s.told⟩))
  else (⟨s.q ++ [m], s.T, s.D, s.U, s.acc + 1, s.t, s.r, s.bound, s.told⟩, [])
def tickK (most : Int) (s : Ak) : Ak × List Tk :=
  if s.q = [] then (s, []) else (⟨s.q, tickT most s.T, s.D, s.U, s.acc, s.t, s.r, s.bound, s.told⟩, if dueT s.T = [] then [] else asksK s)
def onK (s : Ak) (o : Int) : Ak × List Tk :=
  if s.q.tail = [] then (⟨s.q.tail, tdel s.T 0, s.D, s.U, s.acc, 0, 0, false, s.told ++ [o]⟩, [])
  else (beginK ⟨s.q.tail, s.T, s.D, s.U, s.acc, s.t, s.r, s.bound, s.told ++ [o]⟩, asksK (beginK ⟨s.q.tail, s.T, s.D, s.U, s.acc, s.t, s.r, s.bound, s.told ++ [o]⟩))
def takeK (s : Ak) (x : Tk) : Ak × List Tk :=
  if s.q = [] ∨ x.t ≠ s.t then (s, [])
  else if x.kind = 3 then onK s 1
  else if x.kind = 1 then
    (if s.bound = true ∧ x.r ≠ s.r then onK s 2 else (⟨s.q, s.T, s.D, s.U, s.acc, s.t, x.r, true, s.told⟩, [⟨2, s.t, x.c, 0, s.q.headD []⟩]))
  else (s, [])
/-- What holds of an asker. -/
structure AkOk (most room : Int) (s : Ak) : Prop where
  tm : TmOk most s.T
  tl : s.T.length ≤ 1
  tk : ∀ t ∈ s.T, t.key = 0
  acc : s.acc = s.told.length + s.q.length
  cap : (s.q.length : Int) ≤ room
  short : ∀ x ∈ s.q, x.length ≤ 64
  wd : ∀ d ∈ s.D, (Lit.int .u64 d).wf = true
  ud : s.U.length ≤ s.acc
  un : s.U.length = s.told.length + min 1 s.q.length
end Go.Proofs.Ytimlbebockfioaa
