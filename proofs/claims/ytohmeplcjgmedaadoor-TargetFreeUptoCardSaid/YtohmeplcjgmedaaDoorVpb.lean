/- Plain laws of types: the text. -/
import Derived.Test.YtohmeplcjgmedaaDoorVpa
namespace Go.Vx
open Go.Vc

def bs (l : List UInt8) : ByteArray := ⟨l.toArray⟩
theorem bs_size (l : List UInt8) : (bs l).size = l.length := by simp [bs, ByteArray.size]
section
variable (it : Int → ByteArray)
/-- Of a TGen. -/
def genT (n : Int) : ByteArray :=
  if n < 0 then bs [39, 63] else if n ≥ 26 then (bs [39] ++ bytesOf [IntKind.u8.wrap (IntKind.i64.wrap (97 + n.tmod 26))]) ++ it (IntKind.i64.wrap (n.tdiv 26)) else bs [39] ++ bytesOf [IntKind.u8.wrap (IntKind.i64.wrap (97 + n.tmod 26))]
def withT (w : Bool) (a : Tp) (s : ByteArray) : ByteArray := if w = true ∧ a.kids.length = 2 then bs [40] ++ s ++ bs [41] else s
def topT (k n : Int) (ks : List Tp) (ss : List ByteArray) : ByteArray :=
  if k = 1 then bs [105, 110, 116] else if k = 2 then bs [98, 111, 111, 108] else if k = 3 then bs [117, 110, 105, 116] else
  if k = 6 then bs [35] ++ it n else if k = 7 then bs [63] ++ it n else if k = 8 then genT it n else
  match ks, ss with
  | [a, c], [x, y] => if k = 4 then withT ((a.k == 4)) a x ++ bs [32, 45, 62, 32] ++ y else if k = 5 then withT ((a.k == 4)) a x ++ bs [32, 42, 32] ++ withT (c.k == 4 || c.k == 5) c y else bs [63]
  | _, _ => bs [63]
mutual
/-- F8.4. -/
def txt : Tp → ByteArray
  | .mk k n ks => topT it k n ks (txts ks)
def txts : List Tp → List ByteArray
  | [] => []
  | t :: r => txt t :: txts r
end
end
end Go.Vx
