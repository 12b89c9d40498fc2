/- The framer as a plain machine. No condition. -/
import Derived.Test.YtnjloldhmjadoaaLnSpec
import Derived.Test.YtnjloldhmjadoaaDtSpec
namespace Go.Proofs.Ytnjloldhmjadoaa.Fr
open Ln Dt

def ofItm (i : Itm) : It := ⟨i.kind, i.text, [], i.why, false⟩
/-- What is under way: a line (what the liner has; whether it is begun), a body, a chunk (octets wanting; how many of them are told). -/
inductive FM where
  | lines (ls : LS) (begun : Bool)
  | data (r : RS)
  | chunk (left room : Nat)
structure Lim where
  line : Nat
  text : Nat
  all : Nat
def FM.new : FM := .lines LS.new false
def FM.mode : FM → Int
  | .lines _ _ => 1
  | .data _ => 2
  | .chunk _ _ => 3
def FM.begun : FM → Bool
  | .lines _ b => b
  | _ => true
def FM.take (l : Lim) : FM → List UInt8 → Nat × It × FM
  | .lines ls bg, bs =>
    let q := Ln.take l.line ls bs
    (q.1, ofItm q.2.1, .lines q.2.2 (q.2.1.kind == 0 && (bg || decide (0 < q.1))))
  | .data r, bs =>
    let q := RS.take l.text l.all r bs
    (q.1, q.2.1, if q.2.1.kind = 4 then FM.new else .data q.2.2)
  | .chunk left room, bs =>
    let n := min bs.length left
    let told := min n room
    if 0 < told then (n, It.body (bs.take told), .chunk (left - n) (room - told))
    else if left - n = 0 then (n, ⟨4, [], [], 0, false⟩, FM.new)
    else (n, It.none, .chunk (left - n) (room - told))
/-- What a liner holds. -/
def heldL (ls : LS) : Int := ls.text.length + if ls.cr then 1 else 0
def FM.held : FM → Int
  | .lines ls _ => heldL ls
  | .data r => r.held
  | .chunk _ _ => 0
def FM.data? : FM → Int × FM
  | .lines _ false => (0, .data RS.new)
  | m => (6, m)
def FM.chunk? (n room : Int) : FM → Int × FM
  | .lines ls false => if n < 0 ∨ room < 0 then (2, .lines ls false) else (0, .chunk n.toNat room.toNat)
  | m => if n < 0 ∨ room < 0 then (2, m) else (6, m)
end Go.Proofs.Ytnjloldhmjadoaa.Fr
