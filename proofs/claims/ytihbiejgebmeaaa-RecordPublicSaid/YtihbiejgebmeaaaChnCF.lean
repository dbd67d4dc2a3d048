/- codec.Put and codec.Signed behind other bytes: walked. No condition. The document's Put and Signed: walked. No condition. -/
import Derived.Test.YtihbiejgebmeaaaChnAB
namespace Go.Proofs.Ytihbiejgebmeaaa
open Go.RowKit
set_option maxRecDepth 100000
set_option maxHeartbeats 4000000
section
variable {C : Ctx} {ops : Array Oper} {S : St} {o : Oper}
theorem op_eqNilC {x y : Operand} {ty yt e0 : TypeId} {ad : Addr} {len cap : Nat} (hu' : tabLook undT ty = some (.slice e0)) (ho : o.op = .binOp .eql ty x y yt) (hg : o.guard = none) (hd : dstB o.dst C.nt = true) (hx : S.ev x = some (.c (.slice (some ad) len cap))) (hy : S.ev y = some (.c (.slice none 0 0))) : OpG C Try.prog ops o S ⟨opT x ++ opT y, [], dw o.dst (.c (.bool false)), [], []⟩ :=
  op_two (v := .c (.bool false)) hg hd hx hy fun e ρ w h1 h2 => by
    have h1' : ρ x = .slice (some ad) len cap := h1
    have h2' : ρ y = .slice none 0 0 := h2
    have hu := tabAll_look undT_ok hu'
    simp [execOp, ho, h1', h2', binOp, eqGuard, SV.c, run_equal_slice_nil w ty e0 _ _ _ hu]
end
attribute [local irreducible] Calls Walk1 WalkTo Tri EndA
end Go.Proofs.Ytihbiejgebmeaaa
namespace Go.Proofs.Ytihbiejgebmeaaa
open Go.RowKit
set_option maxRecDepth 100000
set_option maxHeartbeats 4000000
attribute [local irreducible] Calls Walk1 WalkTo Tri EndA
end Go.Proofs.Ytihbiejgebmeaaa
