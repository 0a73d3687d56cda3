/- The closed facts of QueryMore' row, one by one. -/
import Derived.Test.YtmdimhcjogjcgaaGreatDoorRows
import Derived.JoinedCond
import Derived.ProofKit
set_option linter.all false
set_option maxRecDepth 100000
set_option maxHeartbeats 4000000
noncomputable section
namespace Go.Proofs.YtmdimhcjogjcgaaGreatDoor.queryMore
open Go.ChangeShapes Go.WideShapes Go.ChangeAt Go.RowKit
theorem k0 : (fun (P : Program) (f : FuncId) (fn : Func) (s : ChangeSpec) (c : OpenClaim) => c.wf (OpenSpec.ofChange s)) Tryz.pinned.checked.prog 5 Tryz.f5 (OpenSpec.ofChange Rows.queryMoreSpec).bare Rows.queryMoreRow = true := by kernel_rfl
theorem k1 : (fun (P : Program) (f : FuncId) (fn : Func) (s : ChangeSpec) (c : OpenClaim) => laidOutB P) Tryz.pinned.checked.prog 5 Tryz.f5 (OpenSpec.ofChange Rows.queryMoreSpec).bare Rows.queryMoreRow = true := by kernel_rfl
theorem k2 : (fun (P : Program) (f : FuncId) (fn : Func) (s : ChangeSpec) (c : OpenClaim) => mapsRowed P) Tryz.pinned.checked.prog 5 Tryz.f5 (OpenSpec.ofChange Rows.queryMoreSpec).bare Rows.queryMoreRow = true := by kernel_rfl
theorem k3 : (fun (P : Program) (f : FuncId) (fn : Func) (s : ChangeSpec) (c : OpenClaim) => fn.params.all (P.readableRec ·)) Tryz.pinned.checked.prog 5 Tryz.f5 (OpenSpec.ofChange Rows.queryMoreSpec).bare Rows.queryMoreRow = true := by kernel_rfl
theorem k4 : (fun (P : Program) (f : FuncId) (fn : Func) (s : ChangeSpec) (c : OpenClaim) => namedTie P c.named s.vars) Tryz.pinned.checked.prog 5 Tryz.f5 (OpenSpec.ofChange Rows.queryMoreSpec).bare Rows.queryMoreRow = true := by kernel_rfl
theorem k5 : (fun (P : Program) (f : FuncId) (fn : Func) (s : ChangeSpec) (c : OpenClaim) => (c.stops == [])) Tryz.pinned.checked.prog 5 Tryz.f5 (OpenSpec.ofChange Rows.queryMoreSpec).bare Rows.queryMoreRow = true := by kernel_rfl
theorem k6 : (fun (P : Program) (f : FuncId) (fn : Func) (s : ChangeSpec) (c : OpenClaim) => (P.stops == [])) Tryz.pinned.checked.prog 5 Tryz.f5 (OpenSpec.ofChange Rows.queryMoreSpec).bare Rows.queryMoreRow = true := by kernel_rfl
theorem k7 : (fun (P : Program) (f : FuncId) (fn : Func) (s : ChangeSpec) (c : OpenClaim) => (c.knobs == [])) Tryz.pinned.checked.prog 5 Tryz.f5 (OpenSpec.ofChange Rows.queryMoreSpec).bare Rows.queryMoreRow = true := by kernel_rfl
theorem k8 : (fun (P : Program) (f : FuncId) (fn : Func) (s : ChangeSpec) (c : OpenClaim) => (P.stopKnobs == [])) Tryz.pinned.checked.prog 5 Tryz.f5 (OpenSpec.ofChange Rows.queryMoreSpec).bare Rows.queryMoreRow = true := by kernel_rfl
theorem k9 : (fun (P : Program) (f : FuncId) (fn : Func) (s : ChangeSpec) (c : OpenClaim) => (c.inPlace == P.inPlace f)) Tryz.pinned.checked.prog 5 Tryz.f5 (OpenSpec.ofChange Rows.queryMoreSpec).bare Rows.queryMoreRow = true := by kernel_rfl
theorem k10 : (fun (P : Program) (f : FuncId) (fn : Func) (s : ChangeSpec) (c : OpenClaim) => (c.unfollowed == P.unfollowed f)) Tryz.pinned.checked.prog 5 Tryz.f5 (OpenSpec.ofChange Rows.queryMoreSpec).bare Rows.queryMoreRow = true := by kernel_rfl
theorem k11 : (fun (P : Program) (f : FuncId) (fn : Func) (s : ChangeSpec) (c : OpenClaim) => (c.recurses == P.recurses f)) Tryz.pinned.checked.prog 5 Tryz.f5 (OpenSpec.ofChange Rows.queryMoreSpec).bare Rows.queryMoreRow = true := by kernel_rfl
theorem k12 : (fun (P : Program) (f : FuncId) (fn : Func) (s : ChangeSpec) (c : OpenClaim) => (c.named == P.varsNamed f)) Tryz.pinned.checked.prog 5 Tryz.f5 (OpenSpec.ofChange Rows.queryMoreSpec).bare Rows.queryMoreRow = true := by kernel_rfl
theorem k13 : (fun (P : Program) (f : FuncId) (fn : Func) (s : ChangeSpec) (c : OpenClaim) => (c.maps == (fn.params.toList ++ s.plain.varTypes P).any (P.mapsRec ·))) Tryz.pinned.checked.prog 5 Tryz.f5 (OpenSpec.ofChange Rows.queryMoreSpec).bare Rows.queryMoreRow = true := by kernel_rfl
theorem k14 : (fun (P : Program) (f : FuncId) (fn : Func) (s : ChangeSpec) (c : OpenClaim) => (c.ifaces == (fn.params.toList ++ s.plain.varTypes P).any (P.ifacesRec ·))) Tryz.pinned.checked.prog 5 Tryz.f5 (OpenSpec.ofChange Rows.queryMoreSpec).bare Rows.queryMoreRow = true := by kernel_rfl
theorem k15 : (fun (P : Program) (f : FuncId) (fn : Func) (s : ChangeSpec) (c : OpenClaim) => (c.mapsOut == P.mapsAmong fn.resultTypes.toList)) Tryz.pinned.checked.prog 5 Tryz.f5 (OpenSpec.ofChange Rows.queryMoreSpec).bare Rows.queryMoreRow = true := by kernel_rfl
theorem k16 : (fun (P : Program) (f : FuncId) (fn : Func) (s : ChangeSpec) (c : OpenClaim) => (c.loops == (fn.params.toList ++ s.plain.varTypes P).any (P.loopsFrom ·))) Tryz.pinned.checked.prog 5 Tryz.f5 (OpenSpec.ofChange Rows.queryMoreSpec).bare Rows.queryMoreRow = true := by kernel_rfl
theorem k17 : (fun (P : Program) (f : FuncId) (fn : Func) (s : ChangeSpec) (c : OpenClaim) => (c.wideKeys == (fn.params.toList ++ s.plain.varTypes P ++ fn.resultTypes.toList).any (P.wideKeysFrom ·))) Tryz.pinned.checked.prog 5 Tryz.f5 (OpenSpec.ofChange Rows.queryMoreSpec).bare Rows.queryMoreRow = true := by kernel_rfl
theorem k18 : (fun (P : Program) (f : FuncId) (fn : Func) (s : ChangeSpec) (c : OpenClaim) => s.vars.all (P.varReadable ·)) Tryz.pinned.checked.prog 5 Tryz.f5 (OpenSpec.ofChange Rows.queryMoreSpec).bare Rows.queryMoreRow = true := by kernel_rfl
theorem k19 : (fun (P : Program) (f : FuncId) (fn : Func) (s : ChangeSpec) (c : OpenClaim) => fn.resultTypes.all (fun t => P.readableRec t && decide (t < P.types.size))) Tryz.pinned.checked.prog 5 Tryz.f5 (OpenSpec.ofChange Rows.queryMoreSpec).bare Rows.queryMoreRow = true := by kernel_rfl
theorem k20 : (fun (P : Program) (f : FuncId) (fn : Func) (s : ChangeSpec) (c : OpenClaim) => (c.ifacesOut == fn.resultTypes.toList.any (P.ifacesRec ·))) Tryz.pinned.checked.prog 5 Tryz.f5 (OpenSpec.ofChange Rows.queryMoreSpec).bare Rows.queryMoreRow = true := by kernel_rfl
theorem k21 : (fun (P : Program) (f : FuncId) (fn : Func) (s : ChangeSpec) (c : OpenClaim) => (c.loopsOut == fn.resultTypes.toList.any (P.loopsFrom ·))) Tryz.pinned.checked.prog 5 Tryz.f5 (OpenSpec.ofChange Rows.queryMoreSpec).bare Rows.queryMoreRow = true := by kernel_rfl
theorem k22 : (fun (P : Program) (f : FuncId) (fn : Func) (s : ChangeSpec) (c : OpenClaim) => (c.plainKeys == P.plainKeys)) Tryz.pinned.checked.prog 5 Tryz.f5 (OpenSpec.ofChange Rows.queryMoreSpec).bare Rows.queryMoreRow = true := by kernel_rfl
theorem k23 : (fun (P : Program) (f : FuncId) (fn : Func) (s : ChangeSpec) (c : OpenClaim) => c.shortTexts.isNone) Tryz.pinned.checked.prog 5 Tryz.f5 (OpenSpec.ofChange Rows.queryMoreSpec).bare Rows.queryMoreRow = true := by kernel_rfl
theorem k24 : (fun (P : Program) (f : FuncId) (fn : Func) (s : ChangeSpec) (c : OpenClaim) => P.stopsHeard) Tryz.pinned.checked.prog 5 Tryz.f5 (OpenSpec.ofChange Rows.queryMoreSpec).bare Rows.queryMoreRow = true := by kernel_rfl
theorem k25 : (fun (P : Program) (f : FuncId) (fn : Func) (s : ChangeSpec) (c : OpenClaim) => P.mayEnter) Tryz.pinned.checked.prog 5 Tryz.f5 (OpenSpec.ofChange Rows.queryMoreSpec).bare Rows.queryMoreRow = true := by kernel_rfl
theorem k26 : (fun (P : Program) (f : FuncId) (fn : Func) (s : ChangeSpec) (c : OpenClaim) => (c.lifted == P.liftsFinal)) Tryz.pinned.checked.prog 5 Tryz.f5 (OpenSpec.ofChange Rows.queryMoreSpec).bare Rows.queryMoreRow = true := by kernel_rfl
theorem k27 : (fun (P : Program) (f : FuncId) (fn : Func) (s : ChangeSpec) (c : OpenClaim) => (P.make == some c.make)) Tryz.pinned.checked.prog 5 Tryz.f5 (OpenSpec.ofChange Rows.queryMoreSpec).bare Rows.queryMoreRow = true := by kernel_rfl
theorem k28 : (fun (P : Program) (f : FuncId) (fn : Func) (s : ChangeSpec) (c : OpenClaim) => (c.kinds == (if c.domain.isEmpty then [] else fn.params.toList.map fun t => match P.underlying t with | some (.int k) => some k | _ => none))) Tryz.pinned.checked.prog 5 Tryz.f5 (OpenSpec.ofChange Rows.queryMoreSpec).bare Rows.queryMoreRow = true := by kernel_rfl
theorem k29 : (fun (P : Program) (f : FuncId) (fn : Func) (s : ChangeSpec) (c : OpenClaim) => (c.pinned == c.pinnedBy)) Tryz.pinned.checked.prog 5 Tryz.f5 (OpenSpec.ofChange Rows.queryMoreSpec).bare Rows.queryMoreRow = true := by kernel_rfl
theorem k30 : (fun (P : Program) (f : FuncId) (fn : Func) (s : ChangeSpec) (c : OpenClaim) => (c.veiled == (fn.params.toList ++ s.plain.varTypes P ++ fn.resultTypes.toList).any (P.veiledRec ·))) Tryz.pinned.checked.prog 5 Tryz.f5 (OpenSpec.ofChange Rows.queryMoreSpec).bare Rows.queryMoreRow = true := by kernel_rfl
theorem k31 : (fun (P : Program) (f : FuncId) (fn : Func) (s : ChangeSpec) (c : OpenClaim) => c.veiledFits P fn.params.toList (fn.params.toList ++ s.plain.varTypes P ++ fn.resultTypes.toList)) Tryz.pinned.checked.prog 5 Tryz.f5 (OpenSpec.ofChange Rows.queryMoreSpec).bare Rows.queryMoreRow = true := by kernel_rfl
theorem iu {a b : Bool} (h : a = true) (k : b = true) : (a && b) = true := by rw [h, k]; rfl
theorem closed : joinedFacts Tryz.pinned.checked.prog 5 Tryz.f5 (OpenSpec.ofChange Rows.queryMoreSpec).bare Rows.queryMoreRow = true := by
 unfold joinedFacts
 exact (iu (iu (iu (iu (iu (iu (iu (iu (iu (iu (iu (iu (iu (iu (iu (iu (iu (iu (iu (iu (iu (iu (iu (iu (iu (iu (iu (iu (iu (iu (iu k0 k1) k2) k3) k4) k5) k6) k7) k8) k9) k10) k11) k12) k13) k14) k15) k16) k17) k18) k19) k20) k21) k22) k23) k24) k25) k26) k27) k28) k29) k30) k31)
end Go.Proofs.YtmdimhcjogjcgaaGreatDoor.queryMore
