/- The abstract code of functions, printed by a program; each is what the program holds. -/
import Derived.Test.YtnhcahoeklpbfaaProg
import Derived.Test.YtnhcahoeklpbfaaAbM
import Derived.KernelRfl
namespace Go.Proofs.Ytnhcahoeklpbfaa
open Go Ab

def c_network_copied_c : AFn :=
  (AFn.mk 2 32 (AC.seq (AC.region [AOp.mk (some 4) none (AO.mov (AX.const (AV.a Atom.nils)))]) (AC.seq (AC.region [AOp.mk (some 7) none (AO.mov (AX.tmp 0)),
    AOp.mk (some 8) none (AO.len (AX.tmp 7)),
    AOp.mk (some 9) none (AO.mov (AX.tmp 0)),
    AOp.mk (some 10) none (AO.len (AX.tmp 9)),
    AOp.mk (some 11) none (AO.mov (AX.tmp 1)),
    AOp.mk (some 12) none (AO.bin BinOp.add (AX.tmp 10) (AX.tmp 11)),
    AOp.mk (some 13) none (AO.makeC 25 9 88 [Atom.int IntKind.i64 0, Atom.int IntKind.i64 0, Atom.int IntKind.i64 0, Atom.int IntKind.i64 0, Atom.int IntKind.i64 0, Atom.int IntKind.i64 0, Atom.int IntKind.i64 0, Atom.bool false, Atom.nils] (AX.tmp 8) (AX.tmp 12)),
    AOp.mk (some 5) none (AO.mov (AX.tmp 13))]) (AC.seq (AC.shut [3000005] (AC.region [AOp.mk (some 14) none (AO.mov (AX.tmp 5)),
    AOp.mk (some 15) none (AO.mov (AX.tmp 0)),
    AOp.mk (some 16) none (AO.copy 9 (AX.tmp 14) (AX.tmp 15))])) (AC.seq (AC.seq (AC.region [AOp.mk (some 17) none (AO.mov (AX.tmp 5)),
    AOp.mk (some 18) none (AO.len (AX.tmp 17)),
    AOp.mk (some 19) none (AO.mov (AX.const (AV.a (Atom.int IntKind.i64 0))))]) (AC.block 0 (AC.loop (AC.seq (AC.region [AOp.mk (some 20) none (AO.bin BinOp.lss (AX.tmp 19) (AX.tmp 18))]) (AC.seq (AC.cond (AX.tmp 20) AC.skip (AC.exit 0)) (AC.seq (AC.block 1 (AC.seq (AC.region [AOp.mk (some 21) none (AO.mov (AX.tmp 19)),
    AOp.mk (some 6) none (AO.mov (AX.tmp 21))]) (AC.region [AOp.mk (some 22) none (AO.mov (AX.tmp 5)),
    AOp.mk (some 23) none (AO.mov (AX.tmp 6)),
    AOp.mk (some 24) none (AO.mov (AX.tmp 5)),
    AOp.mk (some 25) none (AO.mov (AX.tmp 6)),
    AOp.mk (some 26) none (AO.ix 9 (AX.tmp 24) (AX.tmp 25)),
    AOp.mk (some 27) none (AO.load 9 true (AX.tmp 26)),
    AOp.mk (some 28) none (AO.call 15 [AX.tmp 27]),
    AOp.mk (some 29) none (AO.ix 9 (AX.tmp 22) (AX.tmp 23)),
    AOp.mk none none (AO.store 9 (AX.tmp 29) (AX.tmp 28))]))) (AC.region [AOp.mk (some 30) none (AO.bin BinOp.add (AX.tmp 19) (AX.const (AV.a (Atom.int IntKind.i64 1)))),
    AOp.mk (some 19) none (AO.mov (AX.tmp 30))]))))))) (AC.seq (AC.shut [5, 4013005] (AC.region [AOp.mk (some 31) none (AO.mov (AX.tmp 5)),
    AOp.mk (some 4) none (AO.mov (AX.tmp 31))])) AC.ret))))) [ARes.tmp 4])
theorem k_network_copied_c : cFnP Try.prog ⟨[], [], [(2, [3000005]), (8, [5, 4013005])], [], [], [13], [], [], [], false, 0⟩ 18 = some c_network_copied_c := by kernel_rfl

def c_network_Send_c : AFn :=
  (AFn.mk 2 19 (AC.seq (AC.region [AOp.mk (some 4) none (AO.mov (AX.const (AV.a Atom.nils)))]) (AC.seq (AC.region [AOp.mk (some 6) none (AO.mov (AX.tmp 0)),
    AOp.mk (some 7) none (AO.mov (AX.tmp 1)),
    AOp.mk (some 8) none (AO.len (AX.tmp 7)),
    AOp.mk (some 9) none (AO.callFC 18 [AX.tmp 6, AX.tmp 8]),
    AOp.mk (some 5) none (AO.mov (AX.tmp 9))]) (AC.seq (AC.region [AOp.mk (some 10) none (AO.mov (AX.tmp 5)),
    AOp.mk (some 11) none (AO.mov (AX.tmp 1)),
    AOp.mk (some 12) none (AO.call 18 [AX.tmp 11, AX.const (AV.a (Atom.int IntKind.i64 0))]),
    AOp.mk (some 13) none (AO.append 25 9 88 (AX.tmp 10) (AX.tmp 12)),
    AOp.mk (some 5) none (AO.mov (AX.tmp 13))]) (AC.seq (AC.shut [3000005] (AC.region [AOp.mk (some 14) none (AO.mov (AX.tmp 5)),
    AOp.mk (some 15) none (AO.mov (AX.tmp 5)),
    AOp.mk (some 16) none (AO.len (AX.tmp 15)),
    AOp.mk (some 17) none (AO.min (AX.tmp 16) (AX.const (AV.a (Atom.int IntKind.i64 256)))),
    AOp.mk (some 18) none (AO.sl 9 (AX.tmp 14) none (some (AX.tmp 17)) none),
    AOp.mk (some 4) none (AO.mov (AX.tmp 18))])) AC.ret)))) [ARes.tmp 4])
theorem k_network_Send_c : cFnP Try.prog ⟨[], [], [(3, [3000005])], [], [], [9, 1000009], [], [], [], false, 0⟩ 8 = some c_network_Send_c := by kernel_rfl

end Go.Proofs.Ytnhcahoeklpbfaa
