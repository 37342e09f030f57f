/- A part of the proof: PwCpt. -/
import Derived.Test.YtfajgpjpabeafaaPwMd
namespace Pw
open Go

/-! ### points with both coordinates, of the laws of layer 2 -/

structure Cpt where
  f : L4
  x : L4
  y : L4
  z : L4
  none : Bool
def cptV (p : Cpt) : AV := .agg [.u .u64 p.f.a, .u .u64 p.f.b, .u .u64 p.f.c, .u .u64 p.f.d, .u .u64 p.x.a, .u .u64 p.x.b, .u .u64 p.x.c, .u .u64 p.x.d, .u .u64 p.y.a, .u .u64 p.y.b, .u .u64 p.y.c, .u .u64 p.y.d, .u .u64 p.z.a, .u .u64 p.z.b, .u .u64 p.z.c, .u .u64 p.z.d, .bool p.none]
def cpt? : AV → Option Cpt
  | .agg [.u .u64 fa, .u .u64 fb, .u .u64 fc, .u .u64 fd, .u .u64 xa, .u .u64 xb, .u .u64 xc, .u .u64 xd, .u .u64 ya, .u .u64 yb, .u .u64 yc, .u .u64 yd, .u .u64 za, .u .u64 zb, .u .u64 zc, .u .u64 zd, .bool n] => some ⟨⟨fa, fb, fc, fd⟩, ⟨xa, xb, xc, xd⟩, ⟨ya, yb, yc, yd⟩, ⟨za, zb, zc, zd⟩, n⟩
  | _ => .none
theorem cpt?_some {v : AV} {x : Cpt} (h : cpt? v = some x) : v = cptV x := by
  unfold cpt? at h
  split at h
  · cases h; rfl
  · cases h
end Pw
