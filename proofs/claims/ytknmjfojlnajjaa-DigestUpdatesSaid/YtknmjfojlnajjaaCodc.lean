/- The abstract code of functions, printed by a program; each is what the program holds. -/
import Derived.Test.YtknmjfojlnajjaaProg
import Derived.Test.YtknmjfojlnajjaaAbM
import Derived.KernelRfl
namespace Go.Proofs.Ytknmjfojlnajjaa
open Go Ab

def c_checksum_little : AFn :=
  (AFn.mk 2 24 (AC.seq (AC.region [AOp.mk (some 4) none (AO.mov (AX.const (AV.a (Atom.str (ByteArray.mk #[])))))]) (AC.seq (AC.region [AOp.mk (some 7) none (AO.mov (AX.tmp 1)),
    AOp.mk (some 8) none (AO.make 5 1 1 [Atom.int IntKind.u8 0] (AX.tmp 7) (AX.tmp 7)),
    AOp.mk (some 5) none (AO.mov (AX.tmp 8))]) (AC.seq (AC.seq (AC.region [AOp.mk (some 9) none (AO.mov (AX.tmp 1)),
    AOp.mk (some 10) none (AO.mov (AX.const (AV.a (Atom.int IntKind.i64 0))))]) (AC.block 0 (AC.loop (AC.seq (AC.region [AOp.mk (some 11) none (AO.bin BinOp.lss (AX.tmp 10) (AX.tmp 9))]) (AC.seq (AC.cond (AX.tmp 11) AC.skip (AC.exit 0)) (AC.seq (AC.block 1 (AC.seq (AC.region [AOp.mk (some 12) none (AO.mov (AX.tmp 10)),
    AOp.mk (some 6) none (AO.mov (AX.tmp 12))]) (AC.region [AOp.mk (some 13) none (AO.mov (AX.tmp 5)),
    AOp.mk (some 14) none (AO.mov (AX.tmp 6)),
    AOp.mk (some 15) none (AO.mov (AX.tmp 0)),
    AOp.mk (some 16) none (AO.mov (AX.tmp 6)),
    AOp.mk (some 17) none (AO.bin BinOp.mul (AX.const (AV.a (Atom.int IntKind.i64 8))) (AX.tmp 16)),
    AOp.mk (some 18) none (AO.bin BinOp.shr (AX.tmp 15) (AX.tmp 17)),
    AOp.mk (some 19) none (AO.toInt IntKind.u8 (AX.tmp 18)),
    AOp.mk (some 20) none (AO.ix 1 (AX.tmp 13) (AX.tmp 14)),
    AOp.mk none none (AO.store 1 (AX.tmp 20) (AX.tmp 19))]))) (AC.region [AOp.mk (some 21) none (AO.bin BinOp.add (AX.tmp 10) (AX.const (AV.a (Atom.int IntKind.i64 1)))),
    AOp.mk (some 10) none (AO.mov (AX.tmp 21))]))))))) (AC.seq (AC.shut [5] (AC.region [AOp.mk (some 22) none (AO.mov (AX.tmp 5)),
    AOp.mk (some 23) none (AO.strOf (AX.tmp 22)),
    AOp.mk (some 4) none (AO.mov (AX.tmp 23))])) AC.ret)))) [ARes.tmp 4])
theorem k_checksum_little : cFnP Try.prog ⟨[], [], [(7, [5])], [], [], [], [], [], [], false⟩ 59 = some c_checksum_little := by kernel_rfl

def c_checksum_FNV : AFn :=
  (AFn.mk 1 5 (AC.seq (AC.region [AOp.mk (some 2) none (AO.mov (AX.const (AV.a (Atom.int IntKind.u64 0))))]) (AC.seq (AC.region [AOp.mk (some 3) none (AO.mov (AX.tmp 0)),
    AOp.mk (some 4) none (AO.call 31 [AX.const (AV.a (Atom.int IntKind.u64 14695981039346656037)), AX.tmp 3]),
    AOp.mk (some 2) none (AO.mov (AX.tmp 4))]) AC.ret)) [ARes.tmp 2])
theorem k_checksum_FNV : cFn Try.prog 30 = some c_checksum_FNV := by kernel_rfl

def c_checksum_Extend : AFn :=
  (AFn.mk 2 20 (AC.seq (AC.region [AOp.mk (some 4) none (AO.mov (AX.const (AV.a (Atom.int IntKind.u64 0))))]) (AC.seq (AC.seq (AC.region [AOp.mk (some 6) none (AO.mov (AX.tmp 1)),
    AOp.mk (some 7) none (AO.lenS (AX.tmp 6)),
    AOp.mk (some 8) none (AO.mov (AX.const (AV.a (Atom.int IntKind.i64 0))))]) (AC.block 0 (AC.loop (AC.seq (AC.region [AOp.mk (some 9) none (AO.bin BinOp.lss (AX.tmp 8) (AX.tmp 7))]) (AC.seq (AC.cond (AX.tmp 9) AC.skip (AC.exit 0)) (AC.seq (AC.block 1 (AC.seq (AC.region [AOp.mk (some 10) none (AO.mov (AX.tmp 8)),
    AOp.mk (some 5) none (AO.mov (AX.tmp 10))]) (AC.region [AOp.mk (some 11) none (AO.mov (AX.tmp 0)),
    AOp.mk (some 12) none (AO.mov (AX.tmp 1)),
    AOp.mk (some 13) none (AO.mov (AX.tmp 5)),
    AOp.mk (some 14) none (AO.byte (AX.tmp 12) (AX.tmp 13)),
    AOp.mk (some 15) none (AO.toInt IntKind.u64 (AX.tmp 14)),
    AOp.mk (some 16) none (AO.bin BinOp.xor (AX.tmp 11) (AX.tmp 15)),
    AOp.mk (some 17) none (AO.bin BinOp.mul (AX.tmp 16) (AX.const (AV.a (Atom.int IntKind.u64 1099511628211)))),
    AOp.mk (some 0) none (AO.mov (AX.tmp 17))]))) (AC.region [AOp.mk (some 18) none (AO.bin BinOp.add (AX.tmp 8) (AX.const (AV.a (Atom.int IntKind.i64 1)))),
    AOp.mk (some 8) none (AO.mov (AX.tmp 18))]))))))) (AC.seq (AC.region [AOp.mk (some 19) none (AO.mov (AX.tmp 0)),
    AOp.mk (some 4) none (AO.mov (AX.tmp 19))]) AC.ret))) [ARes.tmp 4])
theorem k_checksum_Extend : cFn Try.prog 31 = some c_checksum_Extend := by kernel_rfl

def c_checksum_Mix : AFn :=
  (AFn.mk 2 11 (AC.seq (AC.region [AOp.mk (some 4) none (AO.mov (AX.const (AV.a (Atom.int IntKind.u64 0))))]) (AC.seq (AC.region [AOp.mk (some 5) none (AO.mov (AX.tmp 0)),
    AOp.mk (some 6) none (AO.call 59 [AX.tmp 5, AX.const (AV.a (Atom.int IntKind.i64 8))]),
    AOp.mk (some 7) none (AO.call 30 [AX.tmp 6]),
    AOp.mk (some 8) none (AO.mov (AX.tmp 1)),
    AOp.mk (some 9) none (AO.call 59 [AX.tmp 8, AX.const (AV.a (Atom.int IntKind.i64 8))]),
    AOp.mk (some 10) none (AO.call 31 [AX.tmp 7, AX.tmp 9]),
    AOp.mk (some 4) none (AO.mov (AX.tmp 10))]) AC.ret)) [ARes.tmp 4])
theorem k_checksum_Mix : cFn Try.prog 42 = some c_checksum_Mix := by kernel_rfl

def c_ref03_FNV : AFn :=
  (AFn.mk 1 5 (AC.seq (AC.region [AOp.mk (some 2) none (AO.mov (AX.const (AV.a (Atom.int IntKind.u64 0))))]) (AC.seq (AC.region [AOp.mk (some 3) none (AO.mov (AX.tmp 0)),
    AOp.mk (some 4) none (AO.call 54 [AX.const (AV.a (Atom.int IntKind.u64 14695981039346656037)), AX.tmp 3]),
    AOp.mk (some 2) none (AO.mov (AX.tmp 4))]) AC.ret)) [ARes.tmp 2])
theorem k_ref03_FNV : cFn Try.prog 34 = some c_ref03_FNV := by kernel_rfl

def c_ref03_Mix : AFn :=
  (AFn.mk 2 11 (AC.seq (AC.region [AOp.mk (some 4) none (AO.mov (AX.const (AV.a (Atom.int IntKind.u64 0))))]) (AC.seq (AC.region [AOp.mk (some 5) none (AO.mov (AX.tmp 0)),
    AOp.mk (some 6) none (AO.call 63 [AX.tmp 5, AX.const (AV.a (Atom.int IntKind.i64 8))]),
    AOp.mk (some 7) none (AO.call 54 [AX.const (AV.a (Atom.int IntKind.u64 14695981039346656037)), AX.tmp 6]),
    AOp.mk (some 8) none (AO.mov (AX.tmp 1)),
    AOp.mk (some 9) none (AO.call 63 [AX.tmp 8, AX.const (AV.a (Atom.int IntKind.i64 8))]),
    AOp.mk (some 10) none (AO.call 54 [AX.tmp 7, AX.tmp 9]),
    AOp.mk (some 4) none (AO.mov (AX.tmp 10))]) AC.ret)) [ARes.tmp 4])
theorem k_ref03_Mix : cFn Try.prog 44 = some c_ref03_Mix := by kernel_rfl

def c_ref03_Extend : AFn :=
  (AFn.mk 2 20 (AC.seq (AC.region [AOp.mk (some 4) none (AO.mov (AX.const (AV.a (Atom.int IntKind.u64 0))))]) (AC.seq (AC.seq (AC.region [AOp.mk (some 5) none (AO.mov (AX.const (AV.a (Atom.int IntKind.i64 0))))]) (AC.block 0 (AC.loop (AC.seq (AC.seq (AC.region [AOp.mk (some 6) none (AO.mov (AX.tmp 5)),
    AOp.mk (some 7) none (AO.mov (AX.tmp 1)),
    AOp.mk (some 8) none (AO.lenS (AX.tmp 7)),
    AOp.mk (some 9) none (AO.bin BinOp.lss (AX.tmp 6) (AX.tmp 8))]) (AC.cond (AX.tmp 9) AC.skip (AC.exit 0))) (AC.seq (AC.block 1 (AC.region [AOp.mk (some 12) none (AO.mov (AX.tmp 0)),
    AOp.mk (some 13) none (AO.mov (AX.tmp 1)),
    AOp.mk (some 14) none (AO.mov (AX.tmp 5)),
    AOp.mk (some 15) none (AO.byte (AX.tmp 13) (AX.tmp 14)),
    AOp.mk (some 16) none (AO.toInt IntKind.u64 (AX.tmp 15)),
    AOp.mk (some 17) none (AO.bin BinOp.xor (AX.tmp 12) (AX.tmp 16)),
    AOp.mk (some 18) none (AO.bin BinOp.mul (AX.tmp 17) (AX.const (AV.a (Atom.int IntKind.u64 1099511628211)))),
    AOp.mk (some 0) none (AO.mov (AX.tmp 18))])) (AC.region [AOp.mk (some 10) none (AO.mov (AX.tmp 5)),
    AOp.mk (some 11) none (AO.bin BinOp.add (AX.tmp 10) (AX.const (AV.a (Atom.int IntKind.i64 1)))),
    AOp.mk (some 5) none (AO.mov (AX.tmp 11))])))))) (AC.seq (AC.region [AOp.mk (some 19) none (AO.mov (AX.tmp 0)),
    AOp.mk (some 4) none (AO.mov (AX.tmp 19))]) AC.ret))) [ARes.tmp 4])
theorem k_ref03_Extend : cFn Try.prog 54 = some c_ref03_Extend := by kernel_rfl

def c_ref03_little : AFn :=
  (AFn.mk 2 22 (AC.seq (AC.region [AOp.mk (some 4) none (AO.mov (AX.const (AV.a (Atom.str (ByteArray.mk #[])))))]) (AC.seq (AC.region [AOp.mk (some 5) none (AO.mov (AX.const (AV.a (Atom.str (ByteArray.mk #[])))))]) (AC.seq (AC.seq (AC.region [AOp.mk (some 6) none (AO.mov (AX.const (AV.a (Atom.int IntKind.i64 0))))]) (AC.block 0 (AC.loop (AC.seq (AC.seq (AC.region [AOp.mk (some 7) none (AO.mov (AX.tmp 6)),
    AOp.mk (some 8) none (AO.mov (AX.tmp 1)),
    AOp.mk (some 9) none (AO.bin BinOp.lss (AX.tmp 7) (AX.tmp 8))]) (AC.cond (AX.tmp 9) AC.skip (AC.exit 0))) (AC.seq (AC.block 1 (AC.seq (AC.region [AOp.mk (some 12) none (AO.mov (AX.tmp 5)),
    AOp.mk (some 13) none (AO.mov (AX.tmp 0)),
    AOp.mk (some 14) none (AO.bin BinOp.rem (AX.tmp 13) (AX.const (AV.a (Atom.int IntKind.u64 256)))),
    AOp.mk (some 15) none (AO.toInt IntKind.u8 (AX.tmp 14)),
    AOp.mk (some 16) none (AO.buildSlice 5 1 [AX.tmp 15]),
    AOp.mk (some 17) none (AO.strOf (AX.tmp 16)),
    AOp.mk (some 18) none (AO.bin BinOp.add (AX.tmp 12) (AX.tmp 17)),
    AOp.mk (some 5) none (AO.mov (AX.tmp 18))]) (AC.region [AOp.mk (some 19) none (AO.mov (AX.tmp 0)),
    AOp.mk (some 20) none (AO.bin BinOp.quo (AX.tmp 19) (AX.const (AV.a (Atom.int IntKind.u64 256)))),
    AOp.mk (some 0) none (AO.mov (AX.tmp 20))]))) (AC.region [AOp.mk (some 10) none (AO.mov (AX.tmp 6)),
    AOp.mk (some 11) none (AO.bin BinOp.add (AX.tmp 10) (AX.const (AV.a (Atom.int IntKind.i64 1)))),
    AOp.mk (some 6) none (AO.mov (AX.tmp 11))])))))) (AC.seq (AC.region [AOp.mk (some 21) none (AO.mov (AX.tmp 5)),
    AOp.mk (some 4) none (AO.mov (AX.tmp 21))]) AC.ret)))) [ARes.tmp 4])
theorem k_ref03_little : cFn Try.prog 63 = some c_ref03_little := by kernel_rfl

end Go.Proofs.Ytknmjfojlnajjaa
