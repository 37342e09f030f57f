/- A part of the proof: PwCrv. -/
import Derived.Test.YtccmlapcijjmpaaPwRef
namespace Pw
open Go

/-! ### the ladder's numbers -/

structure Rungs where
  a : L5
  b : L5
  c : L5
  d : L5
def rungsV (x : Rungs) : AV := .agg [.u .u64 x.a.a, .u .u64 x.a.b, .u .u64 x.a.c, .u .u64 x.a.d, .u .u64 x.a.e, .u .u64 x.b.a, .u .u64 x.b.b, .u .u64 x.b.c, .u .u64 x.b.d, .u .u64 x.b.e, .u .u64 x.c.a, .u .u64 x.c.b, .u .u64 x.c.c, .u .u64 x.c.d, .u .u64 x.c.e, .u .u64 x.d.a, .u .u64 x.d.b, .u .u64 x.d.c, .u .u64 x.d.d, .u .u64 x.d.e]
def rungs? : AV → Option Rungs
  | .agg [.u .u64 aa, .u .u64 ab, .u .u64 ac, .u .u64 ad, .u .u64 ae, .u .u64 ba, .u .u64 bb, .u .u64 bc, .u .u64 bd, .u .u64 be, .u .u64 ca, .u .u64 cb, .u .u64 cc, .u .u64 cd, .u .u64 ce, .u .u64 da, .u .u64 db, .u .u64 dc, .u .u64 dd, .u .u64 de] => some ⟨⟨aa, ab, ac, ad, ae⟩, ⟨ba, bb, bc, bd, be⟩, ⟨ca, cb, cc, cd, ce⟩, ⟨da, db, dc, dd, de⟩⟩
  | _ => none
theorem rungs?_some {v : AV} {x : Rungs} (h : rungs? v = some x) : v = rungsV x := by
  unfold rungs? at h
  split at h
  · cases h; rfl
  · cases h
structure RRungs where
  a : L4
  b : L4
  c : L4
  d : L4
def rrungsV (x : RRungs) : AV := .agg [.u .u64 x.a.a, .u .u64 x.a.b, .u .u64 x.a.c, .u .u64 x.a.d, .u .u64 x.b.a, .u .u64 x.b.b, .u .u64 x.b.c, .u .u64 x.b.d, .u .u64 x.c.a, .u .u64 x.c.b, .u .u64 x.c.c, .u .u64 x.c.d, .u .u64 x.d.a, .u .u64 x.d.b, .u .u64 x.d.c, .u .u64 x.d.d]
def rrungs? : AV → Option RRungs
  | .agg [.u .u64 aa, .u .u64 ab, .u .u64 ac, .u .u64 ad, .u .u64 ba, .u .u64 bb, .u .u64 bc, .u .u64 bd, .u .u64 ca, .u .u64 cb, .u .u64 cc, .u .u64 cd, .u .u64 da, .u .u64 db, .u .u64 dc, .u .u64 dd] => some ⟨⟨aa, ab, ac, ad⟩, ⟨ba, bb, bc, bd⟩, ⟨ca, cb, cc, cd⟩, ⟨da, db, dc, dd⟩⟩
  | _ => none
theorem rrungs?_some {v : AV} {x : RRungs} (h : rrungs? v = some x) : v = rrungsV x := by
  unfold rrungs? at h
  split at h
  · cases h; rfl
  · cases h

def byteAt (k : K32) (j : Nat) : Nat := k.toList.getD j 0
end Pw
