/- RunNone's seat: the tables; run.New in each case. -/
import Derived.Test.YtafaeibcpanaeaaGreatDoorS4
namespace Go.VII.RN
noncomputable section
open Go.Proofs
set_option maxRecDepth 100000
noncomputable def gT : GS := ⟨0, fun _ => none, fun _ _ h => by cases h⟩
noncomputable def preI : Option Res := arunQ Tryz.prog gT (extL (rowsLen false) extsR) (drL Tryz.prog gT (rowsLen false) extsR) (semR gT (rowsLen false)).call (semR gT (rowsLen false)).loop (cutPre 9 body3) fr0 (AH.void gT)
noncomputable def hI : AH := resH preI
noncomputable def frI : AFr := resFr preI
noncomputable def argsI : List Value := [.pointer (some ⟨48, 0, none⟩), .pointer (some ⟨10, 0, none⟩), .agg #[sy cC, sy cF, sy cU]]
noncomputable def rowsU (a b : Bool) : List TRow := [⟨13, [.s cU, .i 0], .bool a⟩, ⟨15, [.s cU, .i 10000000], .bool b⟩]
noncomputable def rowsC (a b : Bool) : List TRow := [⟨13, [.s cC, .i 1], .bool a⟩, ⟨15, [.s cC, .i 65536], .bool b⟩]
noncomputable def rowsF (a b : Bool) : List TRow := [⟨13, [.s cF, .i 1], .bool a⟩, ⟨15, [.s cF, .i 10000], .bool b⟩]
noncomputable def rowsCls (m k : Nat) : List TRow := (List.range (k + 1)).map fun i => ⟨13, [.i (Int.ofNat (16 * 2 ^ i)), .s m], .bool (Nat.blt i k)⟩
noncomputable def rowsN (n m : Nat) (z : Int) : List TRow := [⟨2, [.i z, .s n], sy m⟩, ⟨13, [.s m, .i 0], .bool false⟩, ⟨15, [.s m, .i 4194304], .bool false⟩]
noncomputable def tabF (a b : Bool) (k : Nat) : List TRow := rowsU false false ++ rowsC false false ++ rowsN cC cM 8 ++ rowsCls cM k ++ rowsF a b
noncomputable def tabV (k j : Nat) : List TRow := tabF false false k ++ rowsN cF cN 12 ++ rowsCls cN j
noncomputable def run8 (G : GS) (T : List TRow) : Option CRes := (semR G T).call 8 argsI hI
/-- What run.New gives: a pointer (or none), the error, how far names went, and that the config lies as it lay. -/
noncomputable def chk8 (p : Option Nat) (e : Nat) (next : Nat) : Option CRes → Bool
  | some (.ret (.tuple a) h1) => (match a.toList with
    | [q, .int .i64 (.ofNat z)] => (match q, p with
        | .pointer none, none => true
        | .pointer (some ⟨n, 0, none⟩), some m => Nat.beq n m
        | _, _ => false) && Nat.beq z e && Nat.beq h1.next next && (match h1.get 0 with
        | some (.cells 0 true c) => Nat.beq c.size 3 && (match c.get 0, c.get 1, c.get 2 with
          | some (.chan (some x)), some (.chan (some y)), some (.chan (some z)) => Nat.beq x cC && Nat.beq y cF && Nat.beq z cU
          | _, _, _ => false)
        | _ => false)
    | _ => false)
  | _ => false
end
end Go.VII.RN
