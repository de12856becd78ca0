/- RunNone's seat: the run of RunNone round its second call of run.New. -/
import Derived.Test.YtafaeibcpanaeaaGreatDoorS5
namespace Go.VII.RN
noncomputable section
open Go.Proofs
set_option maxRecDepth 100000
noncomputable def extR (T : List TRow) : FuncId → Option Spec := extL T extsR
noncomputable def drR (G : GS) (T : List TRow) : DrawF := drL Tryz.prog G T extsR
noncomputable def isPtr : List Value → Bool
  | .pointer (some _) :: _ => true
  | _ => false
noncomputable def ptrOf : Option Nat → Value
  | none => .pointer none
  | some n => .pointer (some ⟨n, 0, none⟩)
noncomputable def vOf (p : Option Nat) (e : Nat) : Value := .tuple #[ptrOf p, .int .i64 (.ofNat e)]
noncomputable def hO (next : Nat) : AH := AH.keep1 next 0 0 [sy cC, sy cF, sy cU]
open Classical in
noncomputable def call8 (G : GS) (T : List TRow) (p : Option Nat) (e next : Nat) : CallF := fun f args h =>
  bif Nat.beq f 8 && isPtr args then (if args = argsI ∧ h = hI then some (.ret (vOf p e) (hO next)) else none) else (semR G T).call f args h
noncomputable def c10 : Code := match cutPost 9 body3 with
  | .seq a _ => a
  | _ => .skip
noncomputable def ops10 : Array Oper := match c10 with
  | .region _ ops _ => ops
  | _ => #[]
noncomputable def l10 : List Oper := ops10.toList.take 3
noncomputable def o10 : Oper := (ops10[3]?).getD default
noncomputable def m10 : List Oper := ops10.toList.drop 4
theorem post9 : cutPost 9 body3 = .seq c10 (cutPost 10 body3) := by kernel_rfl
theorem c10_eq : c10 = .region 10 ops10 false := by kernel_rfl
theorem ops10_eq : ops10.toList = l10 ++ o10 :: m10 := by kernel_rfl
noncomputable def frJ : AFr := resFr (arunL Tryz.prog gT (extR []) (fun _ _ _ => none) ops10 l10 frI hI)
noncomputable def frK (p : Option Nat) (e : Nat) : AFr := (fput frJ o10.dst (vOf p e)).getD ⟨0, .nil, []⟩
theorem pre_run (s : Nat → Option BI) (hs : ∀ n bi, s n = some bi → LIMIT ≤ n) (T : List TRow) (p : Option Nat) (e next : Nat) :
    arunQ Tryz.prog ⟨0, s, hs⟩ (extR (rowsLen false ++ T)) (drR ⟨0, s, hs⟩ (rowsLen false ++ T)) (call8 ⟨0, s, hs⟩ (rowsLen false ++ T) p e next) (semR ⟨0, s, hs⟩ (rowsLen false ++ T)).loop (cutPre 9 body3) fr0 (AH.void ⟨0, s, hs⟩) = some (.normal, frI, hI) := by kernel_rfl
theorem run_l10 (s : Nat → Option BI) (hs : ∀ n bi, s n = some bi → LIMIT ≤ n) (T : List TRow) (call : CallF) :
    arunL Tryz.prog ⟨0, s, hs⟩ (extR (rowsLen false ++ T)) call ops10 l10 frI hI = some (.normal, frJ, hI) := by kernel_rfl
theorem run_o10w : awanted ops10 frJ o10 = some true := by kernel_rfl
theorem run_o10 (s : Nat → Option BI) (hs : ∀ n bi, s n = some bi → LIMIT ≤ n) (T : List TRow) :
    aopQ Tryz.prog (extR (rowsLen false ++ T)) (aeval ⟨0, s, hs⟩ frJ) o10 hI = some (.enter 8 argsI) := by kernel_rfl
theorem run_p10 : fput frJ o10.dst (vOf (some 52) 0) = some (frK (some 52) 0) ∧ fput frJ o10.dst (vOf none 1) = some (frK none 1) := ⟨by kernel_rfl, by kernel_rfl⟩
noncomputable def rowsT (b1 b2 b3 b4 b5 b6 : Bool) : List TRow :=
  [⟨16, [.s cC, .i 1], .bool b1⟩, ⟨14, [.s cC, .i 65536], .bool b2⟩, ⟨16, [.s cF, .i 1], .bool b3⟩, ⟨14, [.s cF, .i 10000], .bool b4⟩, ⟨16, [.s cU, .i 0], .bool b5⟩, ⟨14, [.s cU, .i 10000000], .bool b6⟩]
noncomputable def tl (G : GS) (T : List TRow) (p : Option Nat) (e next : Nat) : Option Res :=
  seqK (arunL Tryz.prog G (extR T) (call8 G T p e next) ops10 m10 (frK p e) (hO next)) (arunQ Tryz.prog G (extR T) (drR G T) (call8 G T p e next) (semR G T).loop (cutPost 10 body3))
/-- It returns true. -/
noncomputable def chkT : Option Res → Bool
  | some (.ret, fr, h) => (match fr.d with
    | [] => (match aresults Tryz.prog Tryz.f3 fr h with
      | some (.bool b) => b && Nat.ble h.next LIMIT
      | _ => false)
    | _ => false)
  | _ => false
noncomputable def all2 (f : Bool → Bool) : Bool := f true && f false
end
end Go.VII.RN
