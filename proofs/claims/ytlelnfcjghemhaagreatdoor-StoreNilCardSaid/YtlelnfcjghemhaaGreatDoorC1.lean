/- Laid(40, 60) and works() as a whole, and what follows for StoreNil. -/
import Derived.Test.YtlelnfcjghemhaaGreatDoorB9
/-! the heap behind Laid(40, 60): what the evaluator answers from a heap whose numbers begin at 100 -/
namespace Go.AE
open Go
set_option maxRecDepth 100000
deriving instance DecidableEq for Es
deriving instance DecidableEq for NL
deriving instance DecidableEq for Blk

noncomputable def laid1419 : Blk :=
  (.map .nil 1419)
noncomputable def laid1153 : Blk :=
  (.map .nil 1332)
noncomputable def laid1154 : Blk :=
  (.cells 76 (.cat 1 8 (.ptr 102 0) (.cat 2 7 (.cat 1 2 (.nat .i64 60) (.nat .i64 42)) (.cat 1 5 (.nat .u64 2) (.cat 1 4 (.nat .i64 0) (.cat 1 3 (.nat .u64 0)
    (.cat 1 2 (.map 1153) (.bool .false))))))) none)
noncomputable def laid1420 : Blk :=
  (.cells 88 (.cat 1 532 (.ptr 1154 0) (.cat 2 531 (.cat 1 2 (.nat .i64 42) (.nat .i64 2)) (.cat 256 529 (.cat 128 256 (.cat 64 128 (.cat 32 64 (.cat 16 32 (.cat
    8 16 (.cat 4 8 (.cat 2 4 (.cat 1 2 (.nat .u64 3) (.nat .u64 0)) (.rep 2 (.nat .u64 0))) (.rep 4 (.nat .u64 0))) (.rep 8 (.nat .u64 0))) (.rep 16 (.nat .u64
    0))) (.rep 32 (.nat .u64 0))) (.rep 64 (.nat .u64 0))) (.rep 128 (.nat .u64 0))) (.cat 8 273 (.cat 4 8 (.cat 2 4 (.cat 1 2 (.nat .i64 0) (.nat .i64 0))
    (.cat 1 2 (.nat .i64 0) (.nat .i64 0))) (.cat 2 4 (.cat 1 2 (.nat .i64 0) (.nat .i64 0)) (.cat 1 2 (.nat .i64 0) (.nat .i64 0)))) (.cat 256 265 (.cat 128
    256 (.cat 64 128 (.cat 32 64 (.cat 16 32 (.cat 8 16 (.cat 4 8 (.cat 2 4 (.cat 1 2 (.nat .u64 3) (.nat .u64 0)) (.rep 2 (.nat .u64 0))) (.rep 4 (.nat .u64
    0))) (.rep 8 (.nat .u64 0))) (.rep 16 (.nat .u64 0))) (.rep 32 (.nat .u64 0))) (.rep 64 (.nat .u64 0))) (.rep 128 (.nat .u64 0))) (.cat 8 9 (.cat 4 8 (.cat
    2 4 (.cat 1 2 (.nat .i64 0) (.nat .i64 0)) (.cat 1 2 (.nat .i64 0) (.nat .i64 0))) (.cat 2 4 (.cat 1 2 (.nat .i64 0) (.nat .i64 0)) (.cat 1 2 (.nat .i64 0)
    (.nat .i64 0)))) (.map 1419))))))) none)
noncomputable def laid1490 : Blk :=
  (.cells 100 (.cat 1 2 (.ptr 1420 0) (.nat .i64 0)) none)
noncomputable def laid1491 : Blk :=
  (.cells 49 (.cat 2 3 (.cat 1 2 (.ptr 1490 0) (.ptr 1420 0)) (.bool .false)) none)
noncomputable def laid101 : Blk :=
  (.map .nil 1417)
noncomputable def laid100 : Blk :=
  (.cells 71 (.cat 26624 53248 (.cat 13312 26624 (.cat 6656 13312 (.cat 3072 6656 (.cat 1536 3072 (.cat 512 1536 (.cat 252 512 (.cat 112 252 (.cat 56 112 (.cat 28
    56 (.cat 24 28 (.cat 16 24 (.cat 8 16 (.cat 4 8 (.cat 2 4 (.cat 1 2 (.nat .u8 99) (.nat .u8 105)) (.cat 1 2 (.nat .u8 98) (.nat .u8 111))) (.cat 2 4 (.cat 1
    2 (.nat .u8 1) (.nat .u8 0)) (.cat 1 2 (.nat .u8 0) (.nat .u8 0)))) (.cat 4 8 (.cat 2 4 (.cat 1 2 (.nat .u8 0) (.nat .u8 0)) (.cat 1 2 (.nat .u8 0) (.nat
    .u8 0))) (.cat 2 4 (.cat 1 2 (.nat .u8 0) (.nat .u8 0)) (.cat 1 2 (.nat .u8 0) (.nat .u8 2))))) (.cat 4 8 (.cat 2 4 (.cat 1 2 (.nat .u8 0) (.nat .u8 0))
    (.cat 1 2 (.nat .u8 0) (.nat .u8 0))) (.cat 2 4 (.cat 1 2 (.nat .u8 0) (.nat .u8 0)) (.cat 1 2 (.nat .u8 0) (.nat .u8 0))))) (.cat 2 4 (.cat 1 2 (.nat .u8
    0) (.nat .u8 0)) (.cat 1 2 (.nat .u8 0) (.nat .u8 0)))) (.cat 4 28 (.cat 2 4 (.cat 1 2 (.nat .u8 254) (.nat .u8 146)) (.cat 1 2 (.nat .u8 180) (.nat .u8
    5))) (.cat 8 24 (.cat 4 8 (.cat 2 4 (.cat 1 2 (.nat .u8 0) (.nat .u8 0)) (.cat 1 2 (.nat .u8 0) (.nat .u8 60))) (.cat 2 4 (.cat 1 2 (.nat .u8 0) (.nat .u8
    0)) (.cat 1 2 (.nat .u8 0) (.nat .u8 42)))) (.rep 16 (.nat .u8 0))))) (.cat 32 56 (.rep 32 (.nat .u8 0)) (.rep 24 (.nat .u8 0)))) (.cat 40 140 (.rep 40
    (.nat .u8 0)) (.rep 100 (.nat .u8 0)))) (.cat 20 260 (.rep 20 (.nat .u8 0)) (.rep 240 (.nat .u8 0)))) (.cat 512 1024 (.cat 252 512 (.cat 112 252 (.cat 56
    112 (.cat 28 56 (.cat 24 28 (.cat 16 24 (.cat 8 16 (.cat 4 8 (.cat 2 4 (.cat 1 2 (.nat .u8 99) (.nat .u8 105)) (.cat 1 2 (.nat .u8 98) (.nat .u8 111)))
    (.cat 2 4 (.cat 1 2 (.nat .u8 1) (.nat .u8 0)) (.cat 1 2 (.nat .u8 0) (.nat .u8 0)))) (.cat 4 8 (.cat 2 4 (.cat 1 2 (.nat .u8 0) (.nat .u8 0)) (.cat 1 2
    (.nat .u8 0) (.nat .u8 0))) (.cat 2 4 (.cat 1 2 (.nat .u8 0) (.nat .u8 0)) (.cat 1 2 (.nat .u8 0) (.nat .u8 1))))) (.cat 4 8 (.cat 2 4 (.cat 1 2 (.nat .u8
    0) (.nat .u8 0)) (.cat 1 2 (.nat .u8 0) (.nat .u8 0))) (.cat 2 4 (.cat 1 2 (.nat .u8 0) (.nat .u8 0)) (.cat 1 2 (.nat .u8 0) (.nat .u8 0))))) (.cat 2 4
    (.cat 1 2 (.nat .u8 0) (.nat .u8 0)) (.cat 1 2 (.nat .u8 0) (.nat .u8 0)))) (.cat 4 28 (.cat 2 4 (.cat 1 2 (.nat .u8 45) (.nat .u8 147)) (.cat 1 2 (.nat .u8
    14) (.nat .u8 191))) (.cat 8 24 (.cat 4 8 (.cat 2 4 (.cat 1 2 (.nat .u8 0) (.nat .u8 0)) (.cat 1 2 (.nat .u8 0) (.nat .u8 60))) (.cat 2 4 (.cat 1 2 (.nat
    .u8 0) (.nat .u8 0)) (.cat 1 2 (.nat .u8 0) (.nat .u8 42)))) (.rep 16 (.nat .u8 0))))) (.cat 32 56 (.rep 32 (.nat .u8 0)) (.rep 24 (.nat .u8 0)))) (.cat 40
    140 (.rep 40 (.nat .u8 0)) (.rep 100 (.nat .u8 0)))) (.cat 20 260 (.rep 20 (.nat .u8 0)) (.rep 240 (.nat .u8 0)))) (.cat 252 512 (.cat 112 252 (.cat 56 112
    (.cat 28 56 (.cat 24 28 (.cat 16 24 (.cat 8 16 (.cat 4 8 (.cat 2 4 (.cat 1 2 (.nat .u8 99) (.nat .u8 105)) (.cat 1 2 (.nat .u8 98) (.nat .u8 111))) (.cat 2
    4 (.cat 1 2 (.nat .u8 2) (.nat .u8 0)) (.cat 1 2 (.nat .u8 0) (.nat .u8 0)))) (.cat 4 8 (.cat 2 4 (.cat 1 2 (.nat .u8 0) (.nat .u8 0)) (.cat 1 2 (.nat .u8
    0) (.nat .u8 0))) (.cat 2 4 (.cat 1 2 (.nat .u8 0) (.nat .u8 0)) (.cat 1 2 (.nat .u8 0) (.nat .u8 1))))) (.cat 4 8 (.cat 2 4 (.cat 1 2 (.nat .u8 0) (.nat
    .u8 0)) (.cat 1 2 (.nat .u8 0) (.nat .u8 0))) (.cat 2 4 (.cat 1 2 (.nat .u8 0) (.nat .u8 0)) (.cat 1 2 (.nat .u8 0) (.nat .u8 0))))) (.cat 2 4 (.cat 1 2
    (.nat .u8 0) (.nat .u8 0)) (.cat 1 2 (.nat .u8 0) (.nat .u8 2)))) (.cat 4 28 (.cat 2 4 (.cat 1 2 (.nat .u8 48) (.nat .u8 25)) (.cat 1 2 (.nat .u8 82) (.nat
    .u8 223))) (.cat 8 24 (.cat 4 8 (.cat 2 4 (.cat 1 2 (.nat .u8 0) (.nat .u8 0)) (.cat 1 2 (.nat .u8 0) (.nat .u8 0))) (.cat 2 4 (.cat 1 2 (.nat .u8 0) (.nat
    .u8 0)) (.cat 1 2 (.nat .u8 0) (.nat .u8 1)))) (.rep 16 (.nat .u8 0))))) (.cat 32 56 (.rep 32 (.nat .u8 0)) (.rep 24 (.nat .u8 0)))) (.cat 40 140 (.rep 40
    (.nat .u8 0)) (.rep 100 (.nat .u8 0)))) (.cat 20 260 (.rep 20 (.nat .u8 0)) (.rep 240 (.nat .u8 0)))))) (.cat 512 1536 (.cat 252 512 (.cat 112 252 (.cat 56
    112 (.cat 28 56 (.cat 24 28 (.cat 16 24 (.cat 8 16 (.cat 4 8 (.cat 2 4 (.cat 1 2 (.nat .u8 99) (.nat .u8 105)) (.cat 1 2 (.nat .u8 98) (.nat .u8 111)))
    (.cat 2 4 (.cat 1 2 (.nat .u8 3) (.nat .u8 0)) (.cat 1 2 (.nat .u8 0) (.nat .u8 0)))) (.cat 4 8 (.cat 2 4 (.cat 1 2 (.nat .u8 0) (.nat .u8 0)) (.cat 1 2
    (.nat .u8 0) (.nat .u8 0))) (.cat 2 4 (.cat 1 2 (.nat .u8 0) (.nat .u8 0)) (.cat 1 2 (.nat .u8 0) (.nat .u8 1))))) (.cat 4 8 (.cat 2 4 (.cat 1 2 (.nat .u8
    0) (.nat .u8 0)) (.cat 1 2 (.nat .u8 0) (.nat .u8 0))) (.cat 2 4 (.cat 1 2 (.nat .u8 0) (.nat .u8 0)) (.cat 1 2 (.nat .u8 0) (.nat .u8 0))))) (.cat 2 4
    (.cat 1 2 (.nat .u8 0) (.nat .u8 0)) (.cat 1 2 (.nat .u8 0) (.nat .u8 0)))) (.cat 4 28 (.cat 2 4 (.cat 1 2 (.nat .u8 82) (.nat .u8 1)) (.cat 1 2 (.nat .u8
    214) (.nat .u8 39))) (.cat 20 24 (.cat 16 20 (.cat 12 16 (.cat 8 12 (.cat 4 8 (.cat 2 4 (.cat 1 2 (.nat .u8 112) (.nat .u8 97)) (.cat 1 2 (.nat .u8 103)
    (.nat .u8 101))) (.cat 2 4 (.cat 1 2 (.nat .u8 0) (.nat .u8 0)) (.cat 1 2 (.nat .u8 0) (.nat .u8 0)))) (.cat 2 4 (.cat 1 2 (.nat .u8 0) (.nat .u8 0)) (.cat
    1 2 (.nat .u8 0) (.nat .u8 0)))) (.cat 2 4 (.cat 1 2 (.nat .u8 0) (.nat .u8 0)) (.cat 1 2 (.nat .u8 0) (.nat .u8 0)))) (.cat 2 4 (.cat 1 2 (.nat .u8 0)
    (.nat .u8 0)) (.cat 1 2 (.nat .u8 0) (.nat .u8 0)))) (.cat 2 4 (.cat 1 2 (.nat .u8 0) (.nat .u8 0)) (.cat 1 2 (.nat .u8 0) (.nat .u8 0)))))) (.cat 12 56
    (.cat 8 12 (.cat 4 8 (.cat 2 4 (.cat 1 2 (.nat .u8 0) (.nat .u8 0)) (.cat 1 2 (.nat .u8 0) (.nat .u8 0))) (.cat 2 4 (.cat 1 2 (.nat .u8 0) (.nat .u8 0))
    (.cat 1 2 (.nat .u8 0) (.nat .u8 0)))) (.cat 2 4 (.cat 1 2 (.nat .u8 0) (.nat .u8 0)) (.cat 1 2 (.nat .u8 0) (.nat .u8 0)))) (.rep 44 (.nat .u8 0)))) (.cat
    136 140 (.cat 28 136 (.rep 28 (.nat .u8 0)) (.rep 108 (.nat .u8 0))) (.rep 4 (.nat .u8 0)))) (.rep 260 (.nat .u8 0))) (.cat 512 1024 (.cat 252 512 (.cat 112
    252 (.cat 56 112 (.cat 28 56 (.cat 24 28 (.cat 16 24 (.cat 8 16 (.cat 4 8 (.cat 2 4 (.cat 1 2 (.nat .u8 99) (.nat .u8 105)) (.cat 1 2 (.nat .u8 98) (.nat
    .u8 111))) (.cat 2 4 (.cat 1 2 (.nat .u8 3) (.nat .u8 0)) (.cat 1 2 (.nat .u8 0) (.nat .u8 0)))) (.cat 4 8 (.cat 2 4 (.cat 1 2 (.nat .u8 0) (.nat .u8 0))
    (.cat 1 2 (.nat .u8 0) (.nat .u8 0))) (.cat 2 4 (.cat 1 2 (.nat .u8 0) (.nat .u8 0)) (.cat 1 2 (.nat .u8 0) (.nat .u8 1))))) (.cat 4 8 (.cat 2 4 (.cat 1 2
    (.nat .u8 0) (.nat .u8 0)) (.cat 1 2 (.nat .u8 0) (.nat .u8 0))) (.cat 2 4 (.cat 1 2 (.nat .u8 0) (.nat .u8 0)) (.cat 1 2 (.nat .u8 0) (.nat .u8 0)))))
    (.cat 2 4 (.cat 1 2 (.nat .u8 0) (.nat .u8 0)) (.cat 1 2 (.nat .u8 0) (.nat .u8 1)))) (.cat 4 28 (.cat 2 4 (.cat 1 2 (.nat .u8 136) (.nat .u8 9)) (.cat 1 2
    (.nat .u8 149) (.nat .u8 44))) (.cat 15 24 (.cat 7 15 (.cat 3 7 (.cat 1 3 (.nat .u8 3) (.rep 2 (.nat .u8 0))) (.rep 4 (.nat .u8 0))) (.rep 8 (.nat .u8 0)))
    (.rep 9 (.nat .u8 0))))) (.cat 36 56 (.cat 6 36 (.rep 6 (.nat .u8 0)) (.rep 30 (.nat .u8 0))) (.rep 20 (.nat .u8 0)))) (.cat 40 140 (.rep 40 (.nat .u8 0))
    (.rep 100 (.nat .u8 0)))) (.cat 20 260 (.rep 20 (.nat .u8 0)) (.rep 240 (.nat .u8 0)))) (.cat 252 512 (.cat 112 252 (.cat 56 112 (.cat 28 56 (.cat 24 28
    (.cat 16 24 (.cat 8 16 (.cat 4 8 (.cat 2 4 (.cat 1 2 (.nat .u8 99) (.nat .u8 105)) (.cat 1 2 (.nat .u8 98) (.nat .u8 111))) (.cat 2 4 (.cat 1 2 (.nat .u8 4)
    (.nat .u8 0)) (.cat 1 2 (.nat .u8 0) (.nat .u8 0)))) (.cat 4 8 (.cat 2 4 (.cat 1 2 (.nat .u8 0) (.nat .u8 0)) (.cat 1 2 (.nat .u8 0) (.nat .u8 0))) (.cat 2
    4 (.cat 1 2 (.nat .u8 0) (.nat .u8 0)) (.cat 1 2 (.nat .u8 0) (.nat .u8 1))))) (.cat 4 8 (.cat 2 4 (.cat 1 2 (.nat .u8 0) (.nat .u8 0)) (.cat 1 2 (.nat .u8
    0) (.nat .u8 0))) (.cat 2 4 (.cat 1 2 (.nat .u8 0) (.nat .u8 0)) (.cat 1 2 (.nat .u8 0) (.nat .u8 0))))) (.cat 2 4 (.cat 1 2 (.nat .u8 0) (.nat .u8 0))
    (.cat 1 2 (.nat .u8 0) (.nat .u8 2)))) (.cat 4 28 (.cat 2 4 (.cat 1 2 (.nat .u8 228) (.nat .u8 0)) (.cat 1 2 (.nat .u8 13) (.nat .u8 176))) (.rep 24 (.nat
    .u8 0)))) (.rep 56 (.nat .u8 0))) (.rep 140 (.nat .u8 0))) (.rep 260 (.nat .u8 0)))))) (.cat 1536 3584 (.cat 512 1536 (.rep 512 (.nat .u8 0)) (.cat 512 1024
    (.rep 512 (.nat .u8 0)) (.rep 512 (.nat .u8 0)))) (.cat 1024 2048 (.cat 512 1024 (.rep 512 (.nat .u8 0)) (.rep 512 (.nat .u8 0))) (.cat 512 1024 (.rep 512
    (.nat .u8 0)) (.rep 512 (.nat .u8 0)))))) (.cat 3072 6656 (.cat 1536 3072 (.cat 512 1536 (.rep 512 (.nat .u8 0)) (.cat 512 1024 (.rep 512 (.nat .u8 0))
    (.rep 512 (.nat .u8 0)))) (.cat 512 1536 (.rep 512 (.nat .u8 0)) (.cat 512 1024 (.rep 512 (.nat .u8 0)) (.rep 512 (.nat .u8 0))))) (.cat 1536 3584 (.cat 512
    1536 (.rep 512 (.nat .u8 0)) (.cat 512 1024 (.rep 512 (.nat .u8 0)) (.rep 512 (.nat .u8 0)))) (.cat 1024 2048 (.cat 512 1024 (.rep 512 (.nat .u8 0)) (.rep
    512 (.nat .u8 0))) (.cat 512 1024 (.rep 512 (.nat .u8 0)) (.rep 512 (.nat .u8 0))))))) (.cat 6656 13312 (.cat 3072 6656 (.cat 1536 3072 (.cat 512 1536 (.rep
    512 (.nat .u8 0)) (.cat 512 1024 (.rep 512 (.nat .u8 0)) (.rep 512 (.nat .u8 0)))) (.cat 512 1536 (.rep 512 (.nat .u8 0)) (.cat 512 1024 (.rep 512 (.nat .u8
    0)) (.rep 512 (.nat .u8 0))))) (.cat 1536 3584 (.cat 512 1536 (.rep 512 (.nat .u8 0)) (.cat 512 1024 (.rep 512 (.nat .u8 0)) (.rep 512 (.nat .u8 0)))) (.cat
    1024 2048 (.cat 512 1024 (.rep 512 (.nat .u8 0)) (.rep 512 (.nat .u8 0))) (.cat 512 1024 (.rep 512 (.nat .u8 0)) (.rep 512 (.nat .u8 0)))))) (.cat 3072 6656
    (.cat 1536 3072 (.cat 512 1536 (.rep 512 (.nat .u8 0)) (.cat 512 1024 (.rep 512 (.nat .u8 0)) (.rep 512 (.nat .u8 0)))) (.cat 512 1536 (.rep 512 (.nat .u8
    0)) (.cat 512 1024 (.rep 512 (.nat .u8 0)) (.rep 512 (.nat .u8 0))))) (.cat 1536 3584 (.cat 512 1536 (.rep 512 (.nat .u8 0)) (.cat 512 1024 (.rep 512 (.nat
    .u8 0)) (.rep 512 (.nat .u8 0)))) (.cat 1024 2048 (.cat 512 1024 (.rep 512 (.nat .u8 0)) (.rep 512 (.nat .u8 0))) (.cat 512 1024 (.rep 512 (.nat .u8 0))
    (.rep 512 (.nat .u8 0)))))))) (.cat 13312 26624 (.cat 6656 13312 (.cat 3072 6656 (.cat 1536 3072 (.cat 512 1536 (.rep 512 (.nat .u8 0)) (.cat 512 1024 (.rep
    512 (.nat .u8 0)) (.rep 512 (.nat .u8 0)))) (.cat 512 1536 (.rep 512 (.nat .u8 0)) (.cat 512 1024 (.rep 512 (.nat .u8 0)) (.rep 512 (.nat .u8 0))))) (.cat
    1536 3584 (.cat 512 1536 (.rep 512 (.nat .u8 0)) (.cat 512 1024 (.rep 512 (.nat .u8 0)) (.rep 512 (.nat .u8 0)))) (.cat 1024 2048 (.cat 512 1024 (.rep 512
    (.nat .u8 0)) (.cat 252 512 (.cat 112 252 (.cat 56 112 (.cat 28 56 (.cat 24 28 (.cat 16 24 (.cat 8 16 (.cat 4 8 (.cat 2 4 (.cat 1 2 (.nat .u8 99) (.nat .u8
    105)) (.cat 1 2 (.nat .u8 98) (.nat .u8 111))) (.cat 2 4 (.cat 1 2 (.nat .u8 5) (.nat .u8 0)) (.cat 1 2 (.nat .u8 0) (.nat .u8 0)))) (.cat 4 8 (.cat 2 4
    (.cat 1 2 (.nat .u8 0) (.nat .u8 0)) (.cat 1 2 (.nat .u8 0) (.nat .u8 0))) (.cat 2 4 (.cat 1 2 (.nat .u8 0) (.nat .u8 0)) (.cat 1 2 (.nat .u8 0) (.nat .u8
    1))))) (.cat 4 8 (.cat 2 4 (.cat 1 2 (.nat .u8 0) (.nat .u8 0)) (.cat 1 2 (.nat .u8 0) (.nat .u8 0))) (.cat 2 4 (.cat 1 2 (.nat .u8 0) (.nat .u8 0)) (.cat 1
    2 (.nat .u8 0) (.nat .u8 0))))) (.cat 2 4 (.cat 1 2 (.nat .u8 0) (.nat .u8 0)) (.cat 1 2 (.nat .u8 0) (.nat .u8 0)))) (.cat 4 28 (.cat 2 4 (.cat 1 2 (.nat
    .u8 44) (.nat .u8 207)) (.cat 1 2 (.nat .u8 188) (.nat .u8 117))) (.cat 20 24 (.cat 16 20 (.cat 12 16 (.cat 8 12 (.cat 4 8 (.cat 2 4 (.cat 1 2 (.nat .u8
    112) (.nat .u8 97)) (.cat 1 2 (.nat .u8 103) (.nat .u8 101))) (.cat 2 4 (.cat 1 2 (.nat .u8 0) (.nat .u8 0)) (.cat 1 2 (.nat .u8 0) (.nat .u8 0)))) (.cat 2
    4 (.cat 1 2 (.nat .u8 0) (.nat .u8 0)) (.cat 1 2 (.nat .u8 0) (.nat .u8 0)))) (.cat 2 4 (.cat 1 2 (.nat .u8 0) (.nat .u8 0)) (.cat 1 2 (.nat .u8 0) (.nat
    .u8 0)))) (.cat 2 4 (.cat 1 2 (.nat .u8 0) (.nat .u8 0)) (.cat 1 2 (.nat .u8 0) (.nat .u8 0)))) (.cat 2 4 (.cat 1 2 (.nat .u8 0) (.nat .u8 0)) (.cat 1 2
    (.nat .u8 0) (.nat .u8 0)))))) (.cat 12 56 (.cat 8 12 (.cat 4 8 (.cat 2 4 (.cat 1 2 (.nat .u8 0) (.nat .u8 0)) (.cat 1 2 (.nat .u8 0) (.nat .u8 0))) (.cat 2
    4 (.cat 1 2 (.nat .u8 0) (.nat .u8 0)) (.cat 1 2 (.nat .u8 0) (.nat .u8 0)))) (.cat 2 4 (.cat 1 2 (.nat .u8 0) (.nat .u8 0)) (.cat 1 2 (.nat .u8 0) (.nat
    .u8 0)))) (.rep 44 (.nat .u8 0)))) (.cat 136 140 (.cat 28 136 (.rep 28 (.nat .u8 0)) (.rep 108 (.nat .u8 0))) (.rep 4 (.nat .u8 0)))) (.rep 260 (.nat .u8
    0)))) (.cat 512 1024 (.cat 252 512 (.cat 112 252 (.cat 56 112 (.cat 28 56 (.cat 24 28 (.cat 16 24 (.cat 8 16 (.cat 4 8 (.cat 2 4 (.cat 1 2 (.nat .u8 99)
    (.nat .u8 105)) (.cat 1 2 (.nat .u8 98) (.nat .u8 111))) (.cat 2 4 (.cat 1 2 (.nat .u8 5) (.nat .u8 0)) (.cat 1 2 (.nat .u8 0) (.nat .u8 0)))) (.cat 4 8
    (.cat 2 4 (.cat 1 2 (.nat .u8 0) (.nat .u8 0)) (.cat 1 2 (.nat .u8 0) (.nat .u8 0))) (.cat 2 4 (.cat 1 2 (.nat .u8 0) (.nat .u8 0)) (.cat 1 2 (.nat .u8 0)
    (.nat .u8 1))))) (.cat 4 8 (.cat 2 4 (.cat 1 2 (.nat .u8 0) (.nat .u8 0)) (.cat 1 2 (.nat .u8 0) (.nat .u8 0))) (.cat 2 4 (.cat 1 2 (.nat .u8 0) (.nat .u8
    0)) (.cat 1 2 (.nat .u8 0) (.nat .u8 0))))) (.cat 2 4 (.cat 1 2 (.nat .u8 0) (.nat .u8 0)) (.cat 1 2 (.nat .u8 0) (.nat .u8 1)))) (.cat 4 28 (.cat 2 4 (.cat
    1 2 (.nat .u8 246) (.nat .u8 199)) (.cat 1 2 (.nat .u8 255) (.nat .u8 126))) (.cat 15 24 (.cat 7 15 (.cat 3 7 (.cat 1 3 (.nat .u8 3) (.rep 2 (.nat .u8 0)))
    (.rep 4 (.nat .u8 0))) (.rep 8 (.nat .u8 0))) (.rep 9 (.nat .u8 0))))) (.cat 36 56 (.cat 6 36 (.rep 6 (.nat .u8 0)) (.rep 30 (.nat .u8 0))) (.rep 20 (.nat
    .u8 0)))) (.cat 40 140 (.rep 40 (.nat .u8 0)) (.rep 100 (.nat .u8 0)))) (.cat 20 260 (.rep 20 (.nat .u8 0)) (.rep 240 (.nat .u8 0)))) (.cat 252 512 (.cat
    112 252 (.cat 56 112 (.cat 28 56 (.cat 24 28 (.cat 16 24 (.cat 8 16 (.cat 4 8 (.cat 2 4 (.cat 1 2 (.nat .u8 99) (.nat .u8 105)) (.cat 1 2 (.nat .u8 98)
    (.nat .u8 111))) (.cat 2 4 (.cat 1 2 (.nat .u8 5) (.nat .u8 0)) (.cat 1 2 (.nat .u8 0) (.nat .u8 0)))) (.cat 4 8 (.cat 2 4 (.cat 1 2 (.nat .u8 0) (.nat .u8
    0)) (.cat 1 2 (.nat .u8 0) (.nat .u8 0))) (.cat 2 4 (.cat 1 2 (.nat .u8 0) (.nat .u8 0)) (.cat 1 2 (.nat .u8 0) (.nat .u8 1))))) (.cat 4 8 (.cat 2 4 (.cat 1
    2 (.nat .u8 0) (.nat .u8 0)) (.cat 1 2 (.nat .u8 0) (.nat .u8 0))) (.cat 2 4 (.cat 1 2 (.nat .u8 0) (.nat .u8 0)) (.cat 1 2 (.nat .u8 0) (.nat .u8 0)))))
    (.cat 2 4 (.cat 1 2 (.nat .u8 0) (.nat .u8 0)) (.cat 1 2 (.nat .u8 0) (.nat .u8 2)))) (.cat 4 28 (.cat 2 4 (.cat 1 2 (.nat .u8 13) (.nat .u8 134)) (.cat 1 2
    (.nat .u8 204) (.nat .u8 248))) (.rep 24 (.nat .u8 0)))) (.rep 56 (.nat .u8 0))) (.rep 140 (.nat .u8 0))) (.rep 260 (.nat .u8 0))))))) (.cat 3072 6656 (.cat
    1536 3072 (.cat 512 1536 (.cat 252 512 (.cat 112 252 (.cat 56 112 (.cat 28 56 (.cat 24 28 (.cat 16 24 (.cat 8 16 (.cat 4 8 (.cat 2 4 (.cat 1 2 (.nat .u8 99)
    (.nat .u8 105)) (.cat 1 2 (.nat .u8 98) (.nat .u8 111))) (.cat 2 4 (.cat 1 2 (.nat .u8 5) (.nat .u8 0)) (.cat 1 2 (.nat .u8 0) (.nat .u8 0)))) (.cat 4 8
    (.cat 2 4 (.cat 1 2 (.nat .u8 0) (.nat .u8 0)) (.cat 1 2 (.nat .u8 0) (.nat .u8 0))) (.cat 2 4 (.cat 1 2 (.nat .u8 0) (.nat .u8 0)) (.cat 1 2 (.nat .u8 0)
    (.nat .u8 1))))) (.cat 4 8 (.cat 2 4 (.cat 1 2 (.nat .u8 0) (.nat .u8 0)) (.cat 1 2 (.nat .u8 0) (.nat .u8 0))) (.cat 2 4 (.cat 1 2 (.nat .u8 0) (.nat .u8
    0)) (.cat 1 2 (.nat .u8 0) (.nat .u8 0))))) (.cat 2 4 (.cat 1 2 (.nat .u8 0) (.nat .u8 0)) (.cat 1 2 (.nat .u8 0) (.nat .u8 3)))) (.cat 4 28 (.cat 2 4 (.cat
    1 2 (.nat .u8 211) (.nat .u8 180)) (.cat 1 2 (.nat .u8 120) (.nat .u8 64))) (.rep 24 (.nat .u8 0)))) (.rep 56 (.nat .u8 0))) (.rep 140 (.nat .u8 0))) (.rep
    260 (.nat .u8 0))) (.cat 512 1024 (.cat 252 512 (.cat 112 252 (.cat 56 112 (.cat 28 56 (.cat 24 28 (.cat 16 24 (.cat 8 16 (.cat 4 8 (.cat 2 4 (.cat 1 2
    (.nat .u8 99) (.nat .u8 105)) (.cat 1 2 (.nat .u8 98) (.nat .u8 111))) (.cat 2 4 (.cat 1 2 (.nat .u8 5) (.nat .u8 0)) (.cat 1 2 (.nat .u8 0) (.nat .u8 0))))
    (.cat 4 8 (.cat 2 4 (.cat 1 2 (.nat .u8 0) (.nat .u8 0)) (.cat 1 2 (.nat .u8 0) (.nat .u8 0))) (.cat 2 4 (.cat 1 2 (.nat .u8 0) (.nat .u8 0)) (.cat 1 2
    (.nat .u8 0) (.nat .u8 1))))) (.cat 4 8 (.cat 2 4 (.cat 1 2 (.nat .u8 0) (.nat .u8 0)) (.cat 1 2 (.nat .u8 0) (.nat .u8 0))) (.cat 2 4 (.cat 1 2 (.nat .u8
    0) (.nat .u8 0)) (.cat 1 2 (.nat .u8 0) (.nat .u8 0))))) (.cat 2 4 (.cat 1 2 (.nat .u8 0) (.nat .u8 0)) (.cat 1 2 (.nat .u8 0) (.nat .u8 4)))) (.cat 4 28
    (.cat 2 4 (.cat 1 2 (.nat .u8 194) (.nat .u8 241)) (.cat 1 2 (.nat .u8 154) (.nat .u8 138))) (.rep 24 (.nat .u8 0)))) (.rep 56 (.nat .u8 0))) (.rep 140
    (.nat .u8 0))) (.rep 260 (.nat .u8 0))) (.cat 252 512 (.cat 112 252 (.cat 56 112 (.cat 28 56 (.cat 24 28 (.cat 16 24 (.cat 8 16 (.cat 4 8 (.cat 2 4 (.cat 1
    2 (.nat .u8 99) (.nat .u8 105)) (.cat 1 2 (.nat .u8 98) (.nat .u8 111))) (.cat 2 4 (.cat 1 2 (.nat .u8 5) (.nat .u8 0)) (.cat 1 2 (.nat .u8 0) (.nat .u8
    0)))) (.cat 4 8 (.cat 2 4 (.cat 1 2 (.nat .u8 0) (.nat .u8 0)) (.cat 1 2 (.nat .u8 0) (.nat .u8 0))) (.cat 2 4 (.cat 1 2 (.nat .u8 0) (.nat .u8 0)) (.cat 1
    2 (.nat .u8 0) (.nat .u8 1))))) (.cat 4 8 (.cat 2 4 (.cat 1 2 (.nat .u8 0) (.nat .u8 0)) (.cat 1 2 (.nat .u8 0) (.nat .u8 0))) (.cat 2 4 (.cat 1 2 (.nat .u8
    0) (.nat .u8 0)) (.cat 1 2 (.nat .u8 0) (.nat .u8 0))))) (.cat 2 4 (.cat 1 2 (.nat .u8 0) (.nat .u8 0)) (.cat 1 2 (.nat .u8 0) (.nat .u8 5)))) (.cat 4 28
    (.cat 2 4 (.cat 1 2 (.nat .u8 28) (.nat .u8 195)) (.cat 1 2 (.nat .u8 46) (.nat .u8 50))) (.rep 24 (.nat .u8 0)))) (.rep 56 (.nat .u8 0))) (.rep 140 (.nat
    .u8 0))) (.rep 260 (.nat .u8 0))))) (.cat 512 1536 (.cat 252 512 (.cat 112 252 (.cat 56 112 (.cat 28 56 (.cat 24 28 (.cat 16 24 (.cat 8 16 (.cat 4 8 (.cat 2
    4 (.cat 1 2 (.nat .u8 99) (.nat .u8 105)) (.cat 1 2 (.nat .u8 98) (.nat .u8 111))) (.cat 2 4 (.cat 1 2 (.nat .u8 5) (.nat .u8 0)) (.cat 1 2 (.nat .u8 0)
    (.nat .u8 0)))) (.cat 4 8 (.cat 2 4 (.cat 1 2 (.nat .u8 0) (.nat .u8 0)) (.cat 1 2 (.nat .u8 0) (.nat .u8 0))) (.cat 2 4 (.cat 1 2 (.nat .u8 0) (.nat .u8
    0)) (.cat 1 2 (.nat .u8 0) (.nat .u8 1))))) (.cat 4 8 (.cat 2 4 (.cat 1 2 (.nat .u8 0) (.nat .u8 0)) (.cat 1 2 (.nat .u8 0) (.nat .u8 0))) (.cat 2 4 (.cat 1
    2 (.nat .u8 0) (.nat .u8 0)) (.cat 1 2 (.nat .u8 0) (.nat .u8 0))))) (.cat 2 4 (.cat 1 2 (.nat .u8 0) (.nat .u8 0)) (.cat 1 2 (.nat .u8 0) (.nat .u8 6))))
    (.cat 4 28 (.cat 2 4 (.cat 1 2 (.nat .u8 123) (.nat .u8 120)) (.cat 1 2 (.nat .u8 133) (.nat .u8 11))) (.rep 24 (.nat .u8 0)))) (.rep 56 (.nat .u8 0)))
    (.rep 140 (.nat .u8 0))) (.rep 260 (.nat .u8 0))) (.cat 512 1024 (.cat 252 512 (.cat 112 252 (.cat 56 112 (.cat 28 56 (.cat 24 28 (.cat 16 24 (.cat 8 16
    (.cat 4 8 (.cat 2 4 (.cat 1 2 (.nat .u8 99) (.nat .u8 105)) (.cat 1 2 (.nat .u8 98) (.nat .u8 111))) (.cat 2 4 (.cat 1 2 (.nat .u8 5) (.nat .u8 0)) (.cat 1
    2 (.nat .u8 0) (.nat .u8 0)))) (.cat 4 8 (.cat 2 4 (.cat 1 2 (.nat .u8 0) (.nat .u8 0)) (.cat 1 2 (.nat .u8 0) (.nat .u8 0))) (.cat 2 4 (.cat 1 2 (.nat .u8
    0) (.nat .u8 0)) (.cat 1 2 (.nat .u8 0) (.nat .u8 1))))) (.cat 4 8 (.cat 2 4 (.cat 1 2 (.nat .u8 0) (.nat .u8 0)) (.cat 1 2 (.nat .u8 0) (.nat .u8 0)))
    (.cat 2 4 (.cat 1 2 (.nat .u8 0) (.nat .u8 0)) (.cat 1 2 (.nat .u8 0) (.nat .u8 0))))) (.cat 2 4 (.cat 1 2 (.nat .u8 0) (.nat .u8 0)) (.cat 1 2 (.nat .u8 0)
    (.nat .u8 7)))) (.cat 4 28 (.cat 2 4 (.cat 1 2 (.nat .u8 165) (.nat .u8 74)) (.cat 1 2 (.nat .u8 49) (.nat .u8 179))) (.rep 24 (.nat .u8 0)))) (.rep 56
    (.nat .u8 0))) (.rep 140 (.nat .u8 0))) (.rep 260 (.nat .u8 0))) (.cat 252 512 (.cat 112 252 (.cat 56 112 (.cat 28 56 (.cat 24 28 (.cat 16 24 (.cat 8 16
    (.cat 4 8 (.cat 2 4 (.cat 1 2 (.nat .u8 99) (.nat .u8 105)) (.cat 1 2 (.nat .u8 98) (.nat .u8 111))) (.cat 2 4 (.cat 1 2 (.nat .u8 5) (.nat .u8 0)) (.cat 1
    2 (.nat .u8 0) (.nat .u8 0)))) (.cat 4 8 (.cat 2 4 (.cat 1 2 (.nat .u8 0) (.nat .u8 0)) (.cat 1 2 (.nat .u8 0) (.nat .u8 0))) (.cat 2 4 (.cat 1 2 (.nat .u8
    0) (.nat .u8 0)) (.cat 1 2 (.nat .u8 0) (.nat .u8 1))))) (.cat 4 8 (.cat 2 4 (.cat 1 2 (.nat .u8 0) (.nat .u8 0)) (.cat 1 2 (.nat .u8 0) (.nat .u8 0)))
    (.cat 2 4 (.cat 1 2 (.nat .u8 0) (.nat .u8 0)) (.cat 1 2 (.nat .u8 0) (.nat .u8 0))))) (.cat 2 4 (.cat 1 2 (.nat .u8 0) (.nat .u8 0)) (.cat 1 2 (.nat .u8 0)
    (.nat .u8 8)))) (.cat 4 28 (.cat 2 4 (.cat 1 2 (.nat .u8 89) (.nat .u8 243)) (.cat 1 2 (.nat .u8 64) (.nat .u8 159))) (.rep 24 (.nat .u8 0)))) (.rep 56
    (.nat .u8 0))) (.rep 140 (.nat .u8 0))) (.rep 260 (.nat .u8 0)))))) (.cat 1536 3584 (.cat 512 1536 (.cat 252 512 (.cat 112 252 (.cat 56 112 (.cat 28 56
    (.cat 24 28 (.cat 16 24 (.cat 8 16 (.cat 4 8 (.cat 2 4 (.cat 1 2 (.nat .u8 99) (.nat .u8 105)) (.cat 1 2 (.nat .u8 98) (.nat .u8 111))) (.cat 2 4 (.cat 1 2
    (.nat .u8 5) (.nat .u8 0)) (.cat 1 2 (.nat .u8 0) (.nat .u8 0)))) (.cat 4 8 (.cat 2 4 (.cat 1 2 (.nat .u8 0) (.nat .u8 0)) (.cat 1 2 (.nat .u8 0) (.nat .u8
    0))) (.cat 2 4 (.cat 1 2 (.nat .u8 0) (.nat .u8 0)) (.cat 1 2 (.nat .u8 0) (.nat .u8 1))))) (.cat 4 8 (.cat 2 4 (.cat 1 2 (.nat .u8 0) (.nat .u8 0)) (.cat 1
    2 (.nat .u8 0) (.nat .u8 0))) (.cat 2 4 (.cat 1 2 (.nat .u8 0) (.nat .u8 0)) (.cat 1 2 (.nat .u8 0) (.nat .u8 0))))) (.cat 2 4 (.cat 1 2 (.nat .u8 0) (.nat
    .u8 0)) (.cat 1 2 (.nat .u8 0) (.nat .u8 9)))) (.cat 4 28 (.cat 2 4 (.cat 1 2 (.nat .u8 135) (.nat .u8 193)) (.cat 1 2 (.nat .u8 244) (.nat .u8 39))) (.rep
    24 (.nat .u8 0)))) (.rep 56 (.nat .u8 0))) (.rep 140 (.nat .u8 0))) (.rep 260 (.nat .u8 0))) (.cat 512 1024 (.cat 252 512 (.cat 112 252 (.cat 56 112 (.cat
    28 56 (.cat 24 28 (.cat 16 24 (.cat 8 16 (.cat 4 8 (.cat 2 4 (.cat 1 2 (.nat .u8 99) (.nat .u8 105)) (.cat 1 2 (.nat .u8 98) (.nat .u8 111))) (.cat 2 4
    (.cat 1 2 (.nat .u8 5) (.nat .u8 0)) (.cat 1 2 (.nat .u8 0) (.nat .u8 0)))) (.cat 4 8 (.cat 2 4 (.cat 1 2 (.nat .u8 0) (.nat .u8 0)) (.cat 1 2 (.nat .u8 0)
    (.nat .u8 0))) (.cat 2 4 (.cat 1 2 (.nat .u8 0) (.nat .u8 0)) (.cat 1 2 (.nat .u8 0) (.nat .u8 1))))) (.cat 4 8 (.cat 2 4 (.cat 1 2 (.nat .u8 0) (.nat .u8
    0)) (.cat 1 2 (.nat .u8 0) (.nat .u8 0))) (.cat 2 4 (.cat 1 2 (.nat .u8 0) (.nat .u8 0)) (.cat 1 2 (.nat .u8 0) (.nat .u8 0))))) (.cat 2 4 (.cat 1 2 (.nat
    .u8 0) (.nat .u8 0)) (.cat 1 2 (.nat .u8 0) (.nat .u8 10)))) (.cat 4 28 (.cat 2 4 (.cat 1 2 (.nat .u8 224) (.nat .u8 122)) (.cat 1 2 (.nat .u8 95) (.nat .u8
    30))) (.rep 24 (.nat .u8 0)))) (.rep 56 (.nat .u8 0))) (.rep 140 (.nat .u8 0))) (.rep 260 (.nat .u8 0))) (.cat 252 512 (.cat 112 252 (.cat 56 112 (.cat 28
    56 (.cat 24 28 (.cat 16 24 (.cat 8 16 (.cat 4 8 (.cat 2 4 (.cat 1 2 (.nat .u8 99) (.nat .u8 105)) (.cat 1 2 (.nat .u8 98) (.nat .u8 111))) (.cat 2 4 (.cat 1
    2 (.nat .u8 5) (.nat .u8 0)) (.cat 1 2 (.nat .u8 0) (.nat .u8 0)))) (.cat 4 8 (.cat 2 4 (.cat 1 2 (.nat .u8 0) (.nat .u8 0)) (.cat 1 2 (.nat .u8 0) (.nat
    .u8 0))) (.cat 2 4 (.cat 1 2 (.nat .u8 0) (.nat .u8 0)) (.cat 1 2 (.nat .u8 0) (.nat .u8 1))))) (.cat 4 8 (.cat 2 4 (.cat 1 2 (.nat .u8 0) (.nat .u8 0))
    (.cat 1 2 (.nat .u8 0) (.nat .u8 0))) (.cat 2 4 (.cat 1 2 (.nat .u8 0) (.nat .u8 0)) (.cat 1 2 (.nat .u8 0) (.nat .u8 0))))) (.cat 2 4 (.cat 1 2 (.nat .u8
    0) (.nat .u8 0)) (.cat 1 2 (.nat .u8 0) (.nat .u8 11)))) (.cat 4 28 (.cat 2 4 (.cat 1 2 (.nat .u8 62) (.nat .u8 72)) (.cat 1 2 (.nat .u8 235) (.nat .u8
    166))) (.rep 24 (.nat .u8 0)))) (.rep 56 (.nat .u8 0))) (.rep 140 (.nat .u8 0))) (.rep 260 (.nat .u8 0))))) (.cat 1024 2048 (.cat 512 1024 (.cat 252 512
    (.cat 112 252 (.cat 56 112 (.cat 28 56 (.cat 24 28 (.cat 16 24 (.cat 8 16 (.cat 4 8 (.cat 2 4 (.cat 1 2 (.nat .u8 99) (.nat .u8 105)) (.cat 1 2 (.nat .u8
    98) (.nat .u8 111))) (.cat 2 4 (.cat 1 2 (.nat .u8 5) (.nat .u8 0)) (.cat 1 2 (.nat .u8 0) (.nat .u8 0)))) (.cat 4 8 (.cat 2 4 (.cat 1 2 (.nat .u8 0) (.nat
    .u8 0)) (.cat 1 2 (.nat .u8 0) (.nat .u8 0))) (.cat 2 4 (.cat 1 2 (.nat .u8 0) (.nat .u8 0)) (.cat 1 2 (.nat .u8 0) (.nat .u8 1))))) (.cat 4 8 (.cat 2 4
    (.cat 1 2 (.nat .u8 0) (.nat .u8 0)) (.cat 1 2 (.nat .u8 0) (.nat .u8 0))) (.cat 2 4 (.cat 1 2 (.nat .u8 0) (.nat .u8 0)) (.cat 1 2 (.nat .u8 0) (.nat .u8
    0))))) (.cat 2 4 (.cat 1 2 (.nat .u8 0) (.nat .u8 0)) (.cat 1 2 (.nat .u8 0) (.nat .u8 12)))) (.cat 4 28 (.cat 2 4 (.cat 1 2 (.nat .u8 47) (.nat .u8 13))
    (.cat 1 2 (.nat .u8 9) (.nat .u8 108))) (.rep 24 (.nat .u8 0)))) (.rep 56 (.nat .u8 0))) (.rep 140 (.nat .u8 0))) (.rep 260 (.nat .u8 0))) (.cat 252 512
    (.cat 112 252 (.cat 56 112 (.cat 28 56 (.cat 24 28 (.cat 16 24 (.cat 8 16 (.cat 4 8 (.cat 2 4 (.cat 1 2 (.nat .u8 99) (.nat .u8 105)) (.cat 1 2 (.nat .u8
    98) (.nat .u8 111))) (.cat 2 4 (.cat 1 2 (.nat .u8 5) (.nat .u8 0)) (.cat 1 2 (.nat .u8 0) (.nat .u8 0)))) (.cat 4 8 (.cat 2 4 (.cat 1 2 (.nat .u8 0) (.nat
    .u8 0)) (.cat 1 2 (.nat .u8 0) (.nat .u8 0))) (.cat 2 4 (.cat 1 2 (.nat .u8 0) (.nat .u8 0)) (.cat 1 2 (.nat .u8 0) (.nat .u8 1))))) (.cat 4 8 (.cat 2 4
    (.cat 1 2 (.nat .u8 0) (.nat .u8 0)) (.cat 1 2 (.nat .u8 0) (.nat .u8 0))) (.cat 2 4 (.cat 1 2 (.nat .u8 0) (.nat .u8 0)) (.cat 1 2 (.nat .u8 0) (.nat .u8
    0))))) (.cat 2 4 (.cat 1 2 (.nat .u8 0) (.nat .u8 0)) (.cat 1 2 (.nat .u8 0) (.nat .u8 13)))) (.cat 4 28 (.cat 2 4 (.cat 1 2 (.nat .u8 241) (.nat .u8 63))
    (.cat 1 2 (.nat .u8 189) (.nat .u8 212))) (.rep 24 (.nat .u8 0)))) (.rep 56 (.nat .u8 0))) (.rep 140 (.nat .u8 0))) (.rep 260 (.nat .u8 0)))) (.cat 512 1024
    (.cat 252 512 (.cat 112 252 (.cat 56 112 (.cat 28 56 (.cat 24 28 (.cat 16 24 (.cat 8 16 (.cat 4 8 (.cat 2 4 (.cat 1 2 (.nat .u8 99) (.nat .u8 105)) (.cat 1
    2 (.nat .u8 98) (.nat .u8 111))) (.cat 2 4 (.cat 1 2 (.nat .u8 5) (.nat .u8 0)) (.cat 1 2 (.nat .u8 0) (.nat .u8 0)))) (.cat 4 8 (.cat 2 4 (.cat 1 2 (.nat
    .u8 0) (.nat .u8 0)) (.cat 1 2 (.nat .u8 0) (.nat .u8 0))) (.cat 2 4 (.cat 1 2 (.nat .u8 0) (.nat .u8 0)) (.cat 1 2 (.nat .u8 0) (.nat .u8 1))))) (.cat 4 8
    (.cat 2 4 (.cat 1 2 (.nat .u8 0) (.nat .u8 0)) (.cat 1 2 (.nat .u8 0) (.nat .u8 0))) (.cat 2 4 (.cat 1 2 (.nat .u8 0) (.nat .u8 0)) (.cat 1 2 (.nat .u8 0)
    (.nat .u8 0))))) (.cat 2 4 (.cat 1 2 (.nat .u8 0) (.nat .u8 0)) (.cat 1 2 (.nat .u8 0) (.nat .u8 14)))) (.cat 4 28 (.cat 2 4 (.cat 1 2 (.nat .u8 150) (.nat
    .u8 132)) (.cat 1 2 (.nat .u8 22) (.nat .u8 237))) (.rep 24 (.nat .u8 0)))) (.rep 56 (.nat .u8 0))) (.rep 140 (.nat .u8 0))) (.rep 260 (.nat .u8 0))) (.cat
    252 512 (.cat 112 252 (.cat 56 112 (.cat 28 56 (.cat 24 28 (.cat 16 24 (.cat 8 16 (.cat 4 8 (.cat 2 4 (.cat 1 2 (.nat .u8 99) (.nat .u8 105)) (.cat 1 2
    (.nat .u8 98) (.nat .u8 111))) (.cat 2 4 (.cat 1 2 (.nat .u8 5) (.nat .u8 0)) (.cat 1 2 (.nat .u8 0) (.nat .u8 0)))) (.cat 4 8 (.cat 2 4 (.cat 1 2 (.nat .u8
    0) (.nat .u8 0)) (.cat 1 2 (.nat .u8 0) (.nat .u8 0))) (.cat 2 4 (.cat 1 2 (.nat .u8 0) (.nat .u8 0)) (.cat 1 2 (.nat .u8 0) (.nat .u8 1))))) (.cat 4 8
    (.cat 2 4 (.cat 1 2 (.nat .u8 0) (.nat .u8 0)) (.cat 1 2 (.nat .u8 0) (.nat .u8 0))) (.cat 2 4 (.cat 1 2 (.nat .u8 0) (.nat .u8 0)) (.cat 1 2 (.nat .u8 0)
    (.nat .u8 0))))) (.cat 2 4 (.cat 1 2 (.nat .u8 0) (.nat .u8 0)) (.cat 1 2 (.nat .u8 0) (.nat .u8 15)))) (.cat 4 28 (.cat 2 4 (.cat 1 2 (.nat .u8 72) (.nat
    .u8 182)) (.cat 1 2 (.nat .u8 162) (.nat .u8 85))) (.rep 24 (.nat .u8 0)))) (.rep 56 (.nat .u8 0))) (.rep 140 (.nat .u8 0))) (.rep 260 (.nat .u8 0))))))))
    (.cat 6656 13312 (.cat 3072 6656 (.cat 1536 3072 (.cat 512 1536 (.cat 252 512 (.cat 112 252 (.cat 56 112 (.cat 28 56 (.cat 24 28 (.cat 16 24 (.cat 8 16
    (.cat 4 8 (.cat 2 4 (.cat 1 2 (.nat .u8 99) (.nat .u8 105)) (.cat 1 2 (.nat .u8 98) (.nat .u8 111))) (.cat 2 4 (.cat 1 2 (.nat .u8 5) (.nat .u8 0)) (.cat 1
    2 (.nat .u8 0) (.nat .u8 0)))) (.cat 4 8 (.cat 2 4 (.cat 1 2 (.nat .u8 0) (.nat .u8 0)) (.cat 1 2 (.nat .u8 0) (.nat .u8 0))) (.cat 2 4 (.cat 1 2 (.nat .u8
    0) (.nat .u8 0)) (.cat 1 2 (.nat .u8 0) (.nat .u8 1))))) (.cat 4 8 (.cat 2 4 (.cat 1 2 (.nat .u8 0) (.nat .u8 0)) (.cat 1 2 (.nat .u8 0) (.nat .u8 0)))
    (.cat 2 4 (.cat 1 2 (.nat .u8 0) (.nat .u8 0)) (.cat 1 2 (.nat .u8 0) (.nat .u8 0))))) (.cat 2 4 (.cat 1 2 (.nat .u8 0) (.nat .u8 0)) (.cat 1 2 (.nat .u8 0)
    (.nat .u8 16)))) (.cat 4 28 (.cat 2 4 (.cat 1 2 (.nat .u8 106) (.nat .u8 26)) (.cat 1 2 (.nat .u8 130) (.nat .u8 68))) (.rep 24 (.nat .u8 0)))) (.rep 56
    (.nat .u8 0))) (.rep 140 (.nat .u8 0))) (.rep 260 (.nat .u8 0))) (.cat 512 1024 (.cat 252 512 (.cat 112 252 (.cat 56 112 (.cat 28 56 (.cat 24 28 (.cat 16 24
    (.cat 8 16 (.cat 4 8 (.cat 2 4 (.cat 1 2 (.nat .u8 99) (.nat .u8 105)) (.cat 1 2 (.nat .u8 98) (.nat .u8 111))) (.cat 2 4 (.cat 1 2 (.nat .u8 5) (.nat .u8
    0)) (.cat 1 2 (.nat .u8 0) (.nat .u8 0)))) (.cat 4 8 (.cat 2 4 (.cat 1 2 (.nat .u8 0) (.nat .u8 0)) (.cat 1 2 (.nat .u8 0) (.nat .u8 0))) (.cat 2 4 (.cat 1
    2 (.nat .u8 0) (.nat .u8 0)) (.cat 1 2 (.nat .u8 0) (.nat .u8 1))))) (.cat 4 8 (.cat 2 4 (.cat 1 2 (.nat .u8 0) (.nat .u8 0)) (.cat 1 2 (.nat .u8 0) (.nat
    .u8 0))) (.cat 2 4 (.cat 1 2 (.nat .u8 0) (.nat .u8 0)) (.cat 1 2 (.nat .u8 0) (.nat .u8 0))))) (.cat 2 4 (.cat 1 2 (.nat .u8 0) (.nat .u8 0)) (.cat 1 2
    (.nat .u8 0) (.nat .u8 17)))) (.cat 4 28 (.cat 2 4 (.cat 1 2 (.nat .u8 180) (.nat .u8 40)) (.cat 1 2 (.nat .u8 54) (.nat .u8 252))) (.rep 24 (.nat .u8 0))))
    (.rep 56 (.nat .u8 0))) (.rep 140 (.nat .u8 0))) (.rep 260 (.nat .u8 0))) (.cat 252 512 (.cat 112 252 (.cat 56 112 (.cat 28 56 (.cat 24 28 (.cat 16 24 (.cat
    8 16 (.cat 4 8 (.cat 2 4 (.cat 1 2 (.nat .u8 99) (.nat .u8 105)) (.cat 1 2 (.nat .u8 98) (.nat .u8 111))) (.cat 2 4 (.cat 1 2 (.nat .u8 5) (.nat .u8 0))
    (.cat 1 2 (.nat .u8 0) (.nat .u8 0)))) (.cat 4 8 (.cat 2 4 (.cat 1 2 (.nat .u8 0) (.nat .u8 0)) (.cat 1 2 (.nat .u8 0) (.nat .u8 0))) (.cat 2 4 (.cat 1 2
    (.nat .u8 0) (.nat .u8 0)) (.cat 1 2 (.nat .u8 0) (.nat .u8 1))))) (.cat 4 8 (.cat 2 4 (.cat 1 2 (.nat .u8 0) (.nat .u8 0)) (.cat 1 2 (.nat .u8 0) (.nat .u8
    0))) (.cat 2 4 (.cat 1 2 (.nat .u8 0) (.nat .u8 0)) (.cat 1 2 (.nat .u8 0) (.nat .u8 0))))) (.cat 2 4 (.cat 1 2 (.nat .u8 0) (.nat .u8 0)) (.cat 1 2 (.nat
    .u8 0) (.nat .u8 18)))) (.cat 4 28 (.cat 2 4 (.cat 1 2 (.nat .u8 211) (.nat .u8 147)) (.cat 1 2 (.nat .u8 157) (.nat .u8 197))) (.rep 24 (.nat .u8 0))))
    (.rep 56 (.nat .u8 0))) (.rep 140 (.nat .u8 0))) (.rep 260 (.nat .u8 0))))) (.cat 512 1536 (.cat 252 512 (.cat 112 252 (.cat 56 112 (.cat 28 56 (.cat 24 28
    (.cat 16 24 (.cat 8 16 (.cat 4 8 (.cat 2 4 (.cat 1 2 (.nat .u8 99) (.nat .u8 105)) (.cat 1 2 (.nat .u8 98) (.nat .u8 111))) (.cat 2 4 (.cat 1 2 (.nat .u8 5)
    (.nat .u8 0)) (.cat 1 2 (.nat .u8 0) (.nat .u8 0)))) (.cat 4 8 (.cat 2 4 (.cat 1 2 (.nat .u8 0) (.nat .u8 0)) (.cat 1 2 (.nat .u8 0) (.nat .u8 0))) (.cat 2
    4 (.cat 1 2 (.nat .u8 0) (.nat .u8 0)) (.cat 1 2 (.nat .u8 0) (.nat .u8 1))))) (.cat 4 8 (.cat 2 4 (.cat 1 2 (.nat .u8 0) (.nat .u8 0)) (.cat 1 2 (.nat .u8
    0) (.nat .u8 0))) (.cat 2 4 (.cat 1 2 (.nat .u8 0) (.nat .u8 0)) (.cat 1 2 (.nat .u8 0) (.nat .u8 0))))) (.cat 2 4 (.cat 1 2 (.nat .u8 0) (.nat .u8 0))
    (.cat 1 2 (.nat .u8 0) (.nat .u8 19)))) (.cat 4 28 (.cat 2 4 (.cat 1 2 (.nat .u8 13) (.nat .u8 161)) (.cat 1 2 (.nat .u8 41) (.nat .u8 125))) (.rep 24 (.nat
    .u8 0)))) (.rep 56 (.nat .u8 0))) (.rep 140 (.nat .u8 0))) (.rep 260 (.nat .u8 0))) (.cat 512 1024 (.cat 252 512 (.cat 112 252 (.cat 56 112 (.cat 28 56
    (.cat 24 28 (.cat 16 24 (.cat 8 16 (.cat 4 8 (.cat 2 4 (.cat 1 2 (.nat .u8 99) (.nat .u8 105)) (.cat 1 2 (.nat .u8 98) (.nat .u8 111))) (.cat 2 4 (.cat 1 2
    (.nat .u8 5) (.nat .u8 0)) (.cat 1 2 (.nat .u8 0) (.nat .u8 0)))) (.cat 4 8 (.cat 2 4 (.cat 1 2 (.nat .u8 0) (.nat .u8 0)) (.cat 1 2 (.nat .u8 0) (.nat .u8
    0))) (.cat 2 4 (.cat 1 2 (.nat .u8 0) (.nat .u8 0)) (.cat 1 2 (.nat .u8 0) (.nat .u8 1))))) (.cat 4 8 (.cat 2 4 (.cat 1 2 (.nat .u8 0) (.nat .u8 0)) (.cat 1
    2 (.nat .u8 0) (.nat .u8 0))) (.cat 2 4 (.cat 1 2 (.nat .u8 0) (.nat .u8 0)) (.cat 1 2 (.nat .u8 0) (.nat .u8 0))))) (.cat 2 4 (.cat 1 2 (.nat .u8 0) (.nat
    .u8 0)) (.cat 1 2 (.nat .u8 0) (.nat .u8 20)))) (.cat 4 28 (.cat 2 4 (.cat 1 2 (.nat .u8 28) (.nat .u8 228)) (.cat 1 2 (.nat .u8 203) (.nat .u8 183))) (.rep
    24 (.nat .u8 0)))) (.rep 56 (.nat .u8 0))) (.rep 140 (.nat .u8 0))) (.rep 260 (.nat .u8 0))) (.cat 252 512 (.cat 112 252 (.cat 56 112 (.cat 28 56 (.cat 24
    28 (.cat 16 24 (.cat 8 16 (.cat 4 8 (.cat 2 4 (.cat 1 2 (.nat .u8 99) (.nat .u8 105)) (.cat 1 2 (.nat .u8 98) (.nat .u8 111))) (.cat 2 4 (.cat 1 2 (.nat .u8
    5) (.nat .u8 0)) (.cat 1 2 (.nat .u8 0) (.nat .u8 0)))) (.cat 4 8 (.cat 2 4 (.cat 1 2 (.nat .u8 0) (.nat .u8 0)) (.cat 1 2 (.nat .u8 0) (.nat .u8 0))) (.cat
    2 4 (.cat 1 2 (.nat .u8 0) (.nat .u8 0)) (.cat 1 2 (.nat .u8 0) (.nat .u8 1))))) (.cat 4 8 (.cat 2 4 (.cat 1 2 (.nat .u8 0) (.nat .u8 0)) (.cat 1 2 (.nat
    .u8 0) (.nat .u8 0))) (.cat 2 4 (.cat 1 2 (.nat .u8 0) (.nat .u8 0)) (.cat 1 2 (.nat .u8 0) (.nat .u8 0))))) (.cat 2 4 (.cat 1 2 (.nat .u8 0) (.nat .u8 0))
    (.cat 1 2 (.nat .u8 0) (.nat .u8 21)))) (.cat 4 28 (.cat 2 4 (.cat 1 2 (.nat .u8 194) (.nat .u8 214)) (.cat 1 2 (.nat .u8 127) (.nat .u8 15))) (.rep 24
    (.nat .u8 0)))) (.rep 56 (.nat .u8 0))) (.rep 140 (.nat .u8 0))) (.rep 260 (.nat .u8 0)))))) (.cat 1536 3584 (.cat 512 1536 (.cat 252 512 (.cat 112 252
    (.cat 56 112 (.cat 28 56 (.cat 24 28 (.cat 16 24 (.cat 8 16 (.cat 4 8 (.cat 2 4 (.cat 1 2 (.nat .u8 99) (.nat .u8 105)) (.cat 1 2 (.nat .u8 98) (.nat .u8
    111))) (.cat 2 4 (.cat 1 2 (.nat .u8 5) (.nat .u8 0)) (.cat 1 2 (.nat .u8 0) (.nat .u8 0)))) (.cat 4 8 (.cat 2 4 (.cat 1 2 (.nat .u8 0) (.nat .u8 0)) (.cat
    1 2 (.nat .u8 0) (.nat .u8 0))) (.cat 2 4 (.cat 1 2 (.nat .u8 0) (.nat .u8 0)) (.cat 1 2 (.nat .u8 0) (.nat .u8 1))))) (.cat 4 8 (.cat 2 4 (.cat 1 2 (.nat
    .u8 0) (.nat .u8 0)) (.cat 1 2 (.nat .u8 0) (.nat .u8 0))) (.cat 2 4 (.cat 1 2 (.nat .u8 0) (.nat .u8 0)) (.cat 1 2 (.nat .u8 0) (.nat .u8 0))))) (.cat 2 4
    (.cat 1 2 (.nat .u8 0) (.nat .u8 0)) (.cat 1 2 (.nat .u8 0) (.nat .u8 22)))) (.cat 4 28 (.cat 2 4 (.cat 1 2 (.nat .u8 165) (.nat .u8 109)) (.cat 1 2 (.nat
    .u8 212) (.nat .u8 54))) (.rep 24 (.nat .u8 0)))) (.rep 56 (.nat .u8 0))) (.rep 140 (.nat .u8 0))) (.rep 260 (.nat .u8 0))) (.cat 512 1024 (.cat 252 512
    (.cat 112 252 (.cat 56 112 (.cat 28 56 (.cat 24 28 (.cat 16 24 (.cat 8 16 (.cat 4 8 (.cat 2 4 (.cat 1 2 (.nat .u8 99) (.nat .u8 105)) (.cat 1 2 (.nat .u8
    98) (.nat .u8 111))) (.cat 2 4 (.cat 1 2 (.nat .u8 5) (.nat .u8 0)) (.cat 1 2 (.nat .u8 0) (.nat .u8 0)))) (.cat 4 8 (.cat 2 4 (.cat 1 2 (.nat .u8 0) (.nat
    .u8 0)) (.cat 1 2 (.nat .u8 0) (.nat .u8 0))) (.cat 2 4 (.cat 1 2 (.nat .u8 0) (.nat .u8 0)) (.cat 1 2 (.nat .u8 0) (.nat .u8 1))))) (.cat 4 8 (.cat 2 4
    (.cat 1 2 (.nat .u8 0) (.nat .u8 0)) (.cat 1 2 (.nat .u8 0) (.nat .u8 0))) (.cat 2 4 (.cat 1 2 (.nat .u8 0) (.nat .u8 0)) (.cat 1 2 (.nat .u8 0) (.nat .u8
    0))))) (.cat 2 4 (.cat 1 2 (.nat .u8 0) (.nat .u8 0)) (.cat 1 2 (.nat .u8 0) (.nat .u8 23)))) (.cat 4 28 (.cat 2 4 (.cat 1 2 (.nat .u8 123) (.nat .u8 95))
    (.cat 1 2 (.nat .u8 96) (.nat .u8 142))) (.rep 24 (.nat .u8 0)))) (.rep 56 (.nat .u8 0))) (.rep 140 (.nat .u8 0))) (.rep 260 (.nat .u8 0))) (.cat 252 512
    (.cat 112 252 (.cat 56 112 (.cat 28 56 (.cat 24 28 (.cat 16 24 (.cat 8 16 (.cat 4 8 (.cat 2 4 (.cat 1 2 (.nat .u8 99) (.nat .u8 105)) (.cat 1 2 (.nat .u8
    98) (.nat .u8 111))) (.cat 2 4 (.cat 1 2 (.nat .u8 5) (.nat .u8 0)) (.cat 1 2 (.nat .u8 0) (.nat .u8 0)))) (.cat 4 8 (.cat 2 4 (.cat 1 2 (.nat .u8 0) (.nat
    .u8 0)) (.cat 1 2 (.nat .u8 0) (.nat .u8 0))) (.cat 2 4 (.cat 1 2 (.nat .u8 0) (.nat .u8 0)) (.cat 1 2 (.nat .u8 0) (.nat .u8 1))))) (.cat 4 8 (.cat 2 4
    (.cat 1 2 (.nat .u8 0) (.nat .u8 0)) (.cat 1 2 (.nat .u8 0) (.nat .u8 0))) (.cat 2 4 (.cat 1 2 (.nat .u8 0) (.nat .u8 0)) (.cat 1 2 (.nat .u8 0) (.nat .u8
    0))))) (.cat 2 4 (.cat 1 2 (.nat .u8 0) (.nat .u8 0)) (.cat 1 2 (.nat .u8 0) (.nat .u8 24)))) (.cat 4 28 (.cat 2 4 (.cat 1 2 (.nat .u8 135) (.nat .u8 230))
    (.cat 1 2 (.nat .u8 17) (.nat .u8 162))) (.rep 24 (.nat .u8 0)))) (.rep 56 (.nat .u8 0))) (.rep 140 (.nat .u8 0))) (.rep 260 (.nat .u8 0))))) (.cat 1024
    2048 (.cat 512 1024 (.cat 252 512 (.cat 112 252 (.cat 56 112 (.cat 28 56 (.cat 24 28 (.cat 16 24 (.cat 8 16 (.cat 4 8 (.cat 2 4 (.cat 1 2 (.nat .u8 99)
    (.nat .u8 105)) (.cat 1 2 (.nat .u8 98) (.nat .u8 111))) (.cat 2 4 (.cat 1 2 (.nat .u8 5) (.nat .u8 0)) (.cat 1 2 (.nat .u8 0) (.nat .u8 0)))) (.cat 4 8
    (.cat 2 4 (.cat 1 2 (.nat .u8 0) (.nat .u8 0)) (.cat 1 2 (.nat .u8 0) (.nat .u8 0))) (.cat 2 4 (.cat 1 2 (.nat .u8 0) (.nat .u8 0)) (.cat 1 2 (.nat .u8 0)
    (.nat .u8 1))))) (.cat 4 8 (.cat 2 4 (.cat 1 2 (.nat .u8 0) (.nat .u8 0)) (.cat 1 2 (.nat .u8 0) (.nat .u8 0))) (.cat 2 4 (.cat 1 2 (.nat .u8 0) (.nat .u8
    0)) (.cat 1 2 (.nat .u8 0) (.nat .u8 0))))) (.cat 2 4 (.cat 1 2 (.nat .u8 0) (.nat .u8 0)) (.cat 1 2 (.nat .u8 0) (.nat .u8 25)))) (.cat 4 28 (.cat 2 4
    (.cat 1 2 (.nat .u8 89) (.nat .u8 212)) (.cat 1 2 (.nat .u8 165) (.nat .u8 26))) (.rep 24 (.nat .u8 0)))) (.rep 56 (.nat .u8 0))) (.rep 140 (.nat .u8 0)))
    (.rep 260 (.nat .u8 0))) (.cat 252 512 (.cat 112 252 (.cat 56 112 (.cat 28 56 (.cat 24 28 (.cat 16 24 (.cat 8 16 (.cat 4 8 (.cat 2 4 (.cat 1 2 (.nat .u8 99)
    (.nat .u8 105)) (.cat 1 2 (.nat .u8 98) (.nat .u8 111))) (.cat 2 4 (.cat 1 2 (.nat .u8 5) (.nat .u8 0)) (.cat 1 2 (.nat .u8 0) (.nat .u8 0)))) (.cat 4 8
    (.cat 2 4 (.cat 1 2 (.nat .u8 0) (.nat .u8 0)) (.cat 1 2 (.nat .u8 0) (.nat .u8 0))) (.cat 2 4 (.cat 1 2 (.nat .u8 0) (.nat .u8 0)) (.cat 1 2 (.nat .u8 0)
    (.nat .u8 1))))) (.cat 4 8 (.cat 2 4 (.cat 1 2 (.nat .u8 0) (.nat .u8 0)) (.cat 1 2 (.nat .u8 0) (.nat .u8 0))) (.cat 2 4 (.cat 1 2 (.nat .u8 0) (.nat .u8
    0)) (.cat 1 2 (.nat .u8 0) (.nat .u8 0))))) (.cat 2 4 (.cat 1 2 (.nat .u8 0) (.nat .u8 0)) (.cat 1 2 (.nat .u8 0) (.nat .u8 26)))) (.cat 4 28 (.cat 2 4
    (.cat 1 2 (.nat .u8 62) (.nat .u8 111)) (.cat 1 2 (.nat .u8 14) (.nat .u8 35))) (.rep 24 (.nat .u8 0)))) (.rep 56 (.nat .u8 0))) (.rep 140 (.nat .u8 0)))
    (.rep 260 (.nat .u8 0)))) (.cat 512 1024 (.cat 252 512 (.cat 112 252 (.cat 56 112 (.cat 28 56 (.cat 24 28 (.cat 16 24 (.cat 8 16 (.cat 4 8 (.cat 2 4 (.cat 1
    2 (.nat .u8 99) (.nat .u8 105)) (.cat 1 2 (.nat .u8 98) (.nat .u8 111))) (.cat 2 4 (.cat 1 2 (.nat .u8 5) (.nat .u8 0)) (.cat 1 2 (.nat .u8 0) (.nat .u8
    0)))) (.cat 4 8 (.cat 2 4 (.cat 1 2 (.nat .u8 0) (.nat .u8 0)) (.cat 1 2 (.nat .u8 0) (.nat .u8 0))) (.cat 2 4 (.cat 1 2 (.nat .u8 0) (.nat .u8 0)) (.cat 1
    2 (.nat .u8 0) (.nat .u8 1))))) (.cat 4 8 (.cat 2 4 (.cat 1 2 (.nat .u8 0) (.nat .u8 0)) (.cat 1 2 (.nat .u8 0) (.nat .u8 0))) (.cat 2 4 (.cat 1 2 (.nat .u8
    0) (.nat .u8 0)) (.cat 1 2 (.nat .u8 0) (.nat .u8 0))))) (.cat 2 4 (.cat 1 2 (.nat .u8 0) (.nat .u8 0)) (.cat 1 2 (.nat .u8 0) (.nat .u8 27)))) (.cat 4 28
    (.cat 2 4 (.cat 1 2 (.nat .u8 224) (.nat .u8 93)) (.cat 1 2 (.nat .u8 186) (.nat .u8 155))) (.rep 24 (.nat .u8 0)))) (.rep 56 (.nat .u8 0))) (.rep 140 (.nat
    .u8 0))) (.rep 260 (.nat .u8 0))) (.cat 252 512 (.cat 112 252 (.cat 56 112 (.cat 28 56 (.cat 24 28 (.cat 16 24 (.cat 8 16 (.cat 4 8 (.cat 2 4 (.cat 1 2
    (.nat .u8 99) (.nat .u8 105)) (.cat 1 2 (.nat .u8 98) (.nat .u8 111))) (.cat 2 4 (.cat 1 2 (.nat .u8 5) (.nat .u8 0)) (.cat 1 2 (.nat .u8 0) (.nat .u8 0))))
    (.cat 4 8 (.cat 2 4 (.cat 1 2 (.nat .u8 0) (.nat .u8 0)) (.cat 1 2 (.nat .u8 0) (.nat .u8 0))) (.cat 2 4 (.cat 1 2 (.nat .u8 0) (.nat .u8 0)) (.cat 1 2
    (.nat .u8 0) (.nat .u8 1))))) (.cat 4 8 (.cat 2 4 (.cat 1 2 (.nat .u8 0) (.nat .u8 0)) (.cat 1 2 (.nat .u8 0) (.nat .u8 0))) (.cat 2 4 (.cat 1 2 (.nat .u8
    0) (.nat .u8 0)) (.cat 1 2 (.nat .u8 0) (.nat .u8 0))))) (.cat 2 4 (.cat 1 2 (.nat .u8 0) (.nat .u8 0)) (.cat 1 2 (.nat .u8 0) (.nat .u8 28)))) (.cat 4 28
    (.cat 2 4 (.cat 1 2 (.nat .u8 241) (.nat .u8 24)) (.cat 1 2 (.nat .u8 88) (.nat .u8 81))) (.rep 24 (.nat .u8 0)))) (.rep 56 (.nat .u8 0))) (.rep 140 (.nat
    .u8 0))) (.rep 260 (.nat .u8 0))))))) (.cat 3072 6656 (.cat 1536 3072 (.cat 512 1536 (.cat 252 512 (.cat 112 252 (.cat 56 112 (.cat 28 56 (.cat 24 28 (.cat
    16 24 (.cat 8 16 (.cat 4 8 (.cat 2 4 (.cat 1 2 (.nat .u8 99) (.nat .u8 105)) (.cat 1 2 (.nat .u8 98) (.nat .u8 111))) (.cat 2 4 (.cat 1 2 (.nat .u8 5) (.nat
    .u8 0)) (.cat 1 2 (.nat .u8 0) (.nat .u8 0)))) (.cat 4 8 (.cat 2 4 (.cat 1 2 (.nat .u8 0) (.nat .u8 0)) (.cat 1 2 (.nat .u8 0) (.nat .u8 0))) (.cat 2 4
    (.cat 1 2 (.nat .u8 0) (.nat .u8 0)) (.cat 1 2 (.nat .u8 0) (.nat .u8 1))))) (.cat 4 8 (.cat 2 4 (.cat 1 2 (.nat .u8 0) (.nat .u8 0)) (.cat 1 2 (.nat .u8 0)
    (.nat .u8 0))) (.cat 2 4 (.cat 1 2 (.nat .u8 0) (.nat .u8 0)) (.cat 1 2 (.nat .u8 0) (.nat .u8 0))))) (.cat 2 4 (.cat 1 2 (.nat .u8 0) (.nat .u8 0)) (.cat 1
    2 (.nat .u8 0) (.nat .u8 29)))) (.cat 4 28 (.cat 2 4 (.cat 1 2 (.nat .u8 47) (.nat .u8 42)) (.cat 1 2 (.nat .u8 236) (.nat .u8 233))) (.rep 24 (.nat .u8
    0)))) (.rep 56 (.nat .u8 0))) (.rep 140 (.nat .u8 0))) (.rep 260 (.nat .u8 0))) (.cat 512 1024 (.cat 252 512 (.cat 112 252 (.cat 56 112 (.cat 28 56 (.cat 24
    28 (.cat 16 24 (.cat 8 16 (.cat 4 8 (.cat 2 4 (.cat 1 2 (.nat .u8 99) (.nat .u8 105)) (.cat 1 2 (.nat .u8 98) (.nat .u8 111))) (.cat 2 4 (.cat 1 2 (.nat .u8
    5) (.nat .u8 0)) (.cat 1 2 (.nat .u8 0) (.nat .u8 0)))) (.cat 4 8 (.cat 2 4 (.cat 1 2 (.nat .u8 0) (.nat .u8 0)) (.cat 1 2 (.nat .u8 0) (.nat .u8 0))) (.cat
    2 4 (.cat 1 2 (.nat .u8 0) (.nat .u8 0)) (.cat 1 2 (.nat .u8 0) (.nat .u8 1))))) (.cat 4 8 (.cat 2 4 (.cat 1 2 (.nat .u8 0) (.nat .u8 0)) (.cat 1 2 (.nat
    .u8 0) (.nat .u8 0))) (.cat 2 4 (.cat 1 2 (.nat .u8 0) (.nat .u8 0)) (.cat 1 2 (.nat .u8 0) (.nat .u8 0))))) (.cat 2 4 (.cat 1 2 (.nat .u8 0) (.nat .u8 0))
    (.cat 1 2 (.nat .u8 0) (.nat .u8 30)))) (.cat 4 28 (.cat 2 4 (.cat 1 2 (.nat .u8 72) (.nat .u8 145)) (.cat 1 2 (.nat .u8 71) (.nat .u8 208))) (.rep 24 (.nat
    .u8 0)))) (.rep 56 (.nat .u8 0))) (.rep 140 (.nat .u8 0))) (.rep 260 (.nat .u8 0))) (.cat 252 512 (.cat 112 252 (.cat 56 112 (.cat 28 56 (.cat 24 28 (.cat
    16 24 (.cat 8 16 (.cat 4 8 (.cat 2 4 (.cat 1 2 (.nat .u8 99) (.nat .u8 105)) (.cat 1 2 (.nat .u8 98) (.nat .u8 111))) (.cat 2 4 (.cat 1 2 (.nat .u8 5) (.nat
    .u8 0)) (.cat 1 2 (.nat .u8 0) (.nat .u8 0)))) (.cat 4 8 (.cat 2 4 (.cat 1 2 (.nat .u8 0) (.nat .u8 0)) (.cat 1 2 (.nat .u8 0) (.nat .u8 0))) (.cat 2 4
    (.cat 1 2 (.nat .u8 0) (.nat .u8 0)) (.cat 1 2 (.nat .u8 0) (.nat .u8 1))))) (.cat 4 8 (.cat 2 4 (.cat 1 2 (.nat .u8 0) (.nat .u8 0)) (.cat 1 2 (.nat .u8 0)
    (.nat .u8 0))) (.cat 2 4 (.cat 1 2 (.nat .u8 0) (.nat .u8 0)) (.cat 1 2 (.nat .u8 0) (.nat .u8 0))))) (.cat 2 4 (.cat 1 2 (.nat .u8 0) (.nat .u8 0)) (.cat 1
    2 (.nat .u8 0) (.nat .u8 31)))) (.cat 4 28 (.cat 2 4 (.cat 1 2 (.nat .u8 150) (.nat .u8 163)) (.cat 1 2 (.nat .u8 243) (.nat .u8 104))) (.rep 24 (.nat .u8
    0)))) (.rep 56 (.nat .u8 0))) (.rep 140 (.nat .u8 0))) (.rep 260 (.nat .u8 0))))) (.cat 512 1536 (.cat 252 512 (.cat 112 252 (.cat 56 112 (.cat 28 56 (.cat
    24 28 (.cat 16 24 (.cat 8 16 (.cat 4 8 (.cat 2 4 (.cat 1 2 (.nat .u8 99) (.nat .u8 105)) (.cat 1 2 (.nat .u8 98) (.nat .u8 111))) (.cat 2 4 (.cat 1 2 (.nat
    .u8 5) (.nat .u8 0)) (.cat 1 2 (.nat .u8 0) (.nat .u8 0)))) (.cat 4 8 (.cat 2 4 (.cat 1 2 (.nat .u8 0) (.nat .u8 0)) (.cat 1 2 (.nat .u8 0) (.nat .u8 0)))
    (.cat 2 4 (.cat 1 2 (.nat .u8 0) (.nat .u8 0)) (.cat 1 2 (.nat .u8 0) (.nat .u8 1))))) (.cat 4 8 (.cat 2 4 (.cat 1 2 (.nat .u8 0) (.nat .u8 0)) (.cat 1 2
    (.nat .u8 0) (.nat .u8 0))) (.cat 2 4 (.cat 1 2 (.nat .u8 0) (.nat .u8 0)) (.cat 1 2 (.nat .u8 0) (.nat .u8 0))))) (.cat 2 4 (.cat 1 2 (.nat .u8 0) (.nat
    .u8 0)) (.cat 1 2 (.nat .u8 0) (.nat .u8 32)))) (.cat 4 28 (.cat 2 4 (.cat 1 2 (.nat .u8 13) (.nat .u8 201)) (.cat 1 2 (.nat .u8 7) (.nat .u8 242))) (.rep
    24 (.nat .u8 0)))) (.rep 56 (.nat .u8 0))) (.rep 140 (.nat .u8 0))) (.rep 260 (.nat .u8 0))) (.cat 512 1024 (.cat 252 512 (.cat 112 252 (.cat 56 112 (.cat
    28 56 (.cat 24 28 (.cat 16 24 (.cat 8 16 (.cat 4 8 (.cat 2 4 (.cat 1 2 (.nat .u8 99) (.nat .u8 105)) (.cat 1 2 (.nat .u8 98) (.nat .u8 111))) (.cat 2 4
    (.cat 1 2 (.nat .u8 5) (.nat .u8 0)) (.cat 1 2 (.nat .u8 0) (.nat .u8 0)))) (.cat 4 8 (.cat 2 4 (.cat 1 2 (.nat .u8 0) (.nat .u8 0)) (.cat 1 2 (.nat .u8 0)
    (.nat .u8 0))) (.cat 2 4 (.cat 1 2 (.nat .u8 0) (.nat .u8 0)) (.cat 1 2 (.nat .u8 0) (.nat .u8 1))))) (.cat 4 8 (.cat 2 4 (.cat 1 2 (.nat .u8 0) (.nat .u8
    0)) (.cat 1 2 (.nat .u8 0) (.nat .u8 0))) (.cat 2 4 (.cat 1 2 (.nat .u8 0) (.nat .u8 0)) (.cat 1 2 (.nat .u8 0) (.nat .u8 0))))) (.cat 2 4 (.cat 1 2 (.nat
    .u8 0) (.nat .u8 0)) (.cat 1 2 (.nat .u8 0) (.nat .u8 33)))) (.cat 4 28 (.cat 2 4 (.cat 1 2 (.nat .u8 211) (.nat .u8 251)) (.cat 1 2 (.nat .u8 179) (.nat
    .u8 74))) (.rep 24 (.nat .u8 0)))) (.rep 56 (.nat .u8 0))) (.rep 140 (.nat .u8 0))) (.rep 260 (.nat .u8 0))) (.cat 252 512 (.cat 112 252 (.cat 56 112 (.cat
    28 56 (.cat 24 28 (.cat 16 24 (.cat 8 16 (.cat 4 8 (.cat 2 4 (.cat 1 2 (.nat .u8 99) (.nat .u8 105)) (.cat 1 2 (.nat .u8 98) (.nat .u8 111))) (.cat 2 4
    (.cat 1 2 (.nat .u8 5) (.nat .u8 0)) (.cat 1 2 (.nat .u8 0) (.nat .u8 0)))) (.cat 4 8 (.cat 2 4 (.cat 1 2 (.nat .u8 0) (.nat .u8 0)) (.cat 1 2 (.nat .u8 0)
    (.nat .u8 0))) (.cat 2 4 (.cat 1 2 (.nat .u8 0) (.nat .u8 0)) (.cat 1 2 (.nat .u8 0) (.nat .u8 1))))) (.cat 4 8 (.cat 2 4 (.cat 1 2 (.nat .u8 0) (.nat .u8
    0)) (.cat 1 2 (.nat .u8 0) (.nat .u8 0))) (.cat 2 4 (.cat 1 2 (.nat .u8 0) (.nat .u8 0)) (.cat 1 2 (.nat .u8 0) (.nat .u8 0))))) (.cat 2 4 (.cat 1 2 (.nat
    .u8 0) (.nat .u8 0)) (.cat 1 2 (.nat .u8 0) (.nat .u8 34)))) (.cat 4 28 (.cat 2 4 (.cat 1 2 (.nat .u8 180) (.nat .u8 64)) (.cat 1 2 (.nat .u8 24) (.nat .u8
    115))) (.rep 24 (.nat .u8 0)))) (.rep 56 (.nat .u8 0))) (.rep 140 (.nat .u8 0))) (.rep 260 (.nat .u8 0)))))) (.cat 1536 3584 (.cat 512 1536 (.cat 252 512
    (.cat 112 252 (.cat 56 112 (.cat 28 56 (.cat 24 28 (.cat 16 24 (.cat 8 16 (.cat 4 8 (.cat 2 4 (.cat 1 2 (.nat .u8 99) (.nat .u8 105)) (.cat 1 2 (.nat .u8
    98) (.nat .u8 111))) (.cat 2 4 (.cat 1 2 (.nat .u8 5) (.nat .u8 0)) (.cat 1 2 (.nat .u8 0) (.nat .u8 0)))) (.cat 4 8 (.cat 2 4 (.cat 1 2 (.nat .u8 0) (.nat
    .u8 0)) (.cat 1 2 (.nat .u8 0) (.nat .u8 0))) (.cat 2 4 (.cat 1 2 (.nat .u8 0) (.nat .u8 0)) (.cat 1 2 (.nat .u8 0) (.nat .u8 1))))) (.cat 4 8 (.cat 2 4
    (.cat 1 2 (.nat .u8 0) (.nat .u8 0)) (.cat 1 2 (.nat .u8 0) (.nat .u8 0))) (.cat 2 4 (.cat 1 2 (.nat .u8 0) (.nat .u8 0)) (.cat 1 2 (.nat .u8 0) (.nat .u8
    0))))) (.cat 2 4 (.cat 1 2 (.nat .u8 0) (.nat .u8 0)) (.cat 1 2 (.nat .u8 0) (.nat .u8 35)))) (.cat 4 28 (.cat 2 4 (.cat 1 2 (.nat .u8 106) (.nat .u8 114))
    (.cat 1 2 (.nat .u8 172) (.nat .u8 203))) (.rep 24 (.nat .u8 0)))) (.rep 56 (.nat .u8 0))) (.rep 140 (.nat .u8 0))) (.rep 260 (.nat .u8 0))) (.cat 512 1024
    (.cat 252 512 (.cat 112 252 (.cat 56 112 (.cat 28 56 (.cat 24 28 (.cat 16 24 (.cat 8 16 (.cat 4 8 (.cat 2 4 (.cat 1 2 (.nat .u8 99) (.nat .u8 105)) (.cat 1
    2 (.nat .u8 98) (.nat .u8 111))) (.cat 2 4 (.cat 1 2 (.nat .u8 5) (.nat .u8 0)) (.cat 1 2 (.nat .u8 0) (.nat .u8 0)))) (.cat 4 8 (.cat 2 4 (.cat 1 2 (.nat
    .u8 0) (.nat .u8 0)) (.cat 1 2 (.nat .u8 0) (.nat .u8 0))) (.cat 2 4 (.cat 1 2 (.nat .u8 0) (.nat .u8 0)) (.cat 1 2 (.nat .u8 0) (.nat .u8 1))))) (.cat 4 8
    (.cat 2 4 (.cat 1 2 (.nat .u8 0) (.nat .u8 0)) (.cat 1 2 (.nat .u8 0) (.nat .u8 0))) (.cat 2 4 (.cat 1 2 (.nat .u8 0) (.nat .u8 0)) (.cat 1 2 (.nat .u8 0)
    (.nat .u8 0))))) (.cat 2 4 (.cat 1 2 (.nat .u8 0) (.nat .u8 0)) (.cat 1 2 (.nat .u8 0) (.nat .u8 36)))) (.cat 4 28 (.cat 2 4 (.cat 1 2 (.nat .u8 123) (.nat
    .u8 55)) (.cat 1 2 (.nat .u8 78) (.nat .u8 1))) (.rep 24 (.nat .u8 0)))) (.rep 56 (.nat .u8 0))) (.rep 140 (.nat .u8 0))) (.rep 260 (.nat .u8 0))) (.cat 252
    512 (.cat 112 252 (.cat 56 112 (.cat 28 56 (.cat 24 28 (.cat 16 24 (.cat 8 16 (.cat 4 8 (.cat 2 4 (.cat 1 2 (.nat .u8 99) (.nat .u8 105)) (.cat 1 2 (.nat
    .u8 98) (.nat .u8 111))) (.cat 2 4 (.cat 1 2 (.nat .u8 5) (.nat .u8 0)) (.cat 1 2 (.nat .u8 0) (.nat .u8 0)))) (.cat 4 8 (.cat 2 4 (.cat 1 2 (.nat .u8 0)
    (.nat .u8 0)) (.cat 1 2 (.nat .u8 0) (.nat .u8 0))) (.cat 2 4 (.cat 1 2 (.nat .u8 0) (.nat .u8 0)) (.cat 1 2 (.nat .u8 0) (.nat .u8 1))))) (.cat 4 8 (.cat 2
    4 (.cat 1 2 (.nat .u8 0) (.nat .u8 0)) (.cat 1 2 (.nat .u8 0) (.nat .u8 0))) (.cat 2 4 (.cat 1 2 (.nat .u8 0) (.nat .u8 0)) (.cat 1 2 (.nat .u8 0) (.nat .u8
    0))))) (.cat 2 4 (.cat 1 2 (.nat .u8 0) (.nat .u8 0)) (.cat 1 2 (.nat .u8 0) (.nat .u8 37)))) (.cat 4 28 (.cat 2 4 (.cat 1 2 (.nat .u8 165) (.nat .u8 5))
    (.cat 1 2 (.nat .u8 250) (.nat .u8 185))) (.rep 24 (.nat .u8 0)))) (.rep 56 (.nat .u8 0))) (.rep 140 (.nat .u8 0))) (.rep 260 (.nat .u8 0))))) (.cat 1024
    2048 (.cat 512 1024 (.cat 252 512 (.cat 112 252 (.cat 56 112 (.cat 28 56 (.cat 24 28 (.cat 16 24 (.cat 8 16 (.cat 4 8 (.cat 2 4 (.cat 1 2 (.nat .u8 99)
    (.nat .u8 105)) (.cat 1 2 (.nat .u8 98) (.nat .u8 111))) (.cat 2 4 (.cat 1 2 (.nat .u8 5) (.nat .u8 0)) (.cat 1 2 (.nat .u8 0) (.nat .u8 0)))) (.cat 4 8
    (.cat 2 4 (.cat 1 2 (.nat .u8 0) (.nat .u8 0)) (.cat 1 2 (.nat .u8 0) (.nat .u8 0))) (.cat 2 4 (.cat 1 2 (.nat .u8 0) (.nat .u8 0)) (.cat 1 2 (.nat .u8 0)
    (.nat .u8 1))))) (.cat 4 8 (.cat 2 4 (.cat 1 2 (.nat .u8 0) (.nat .u8 0)) (.cat 1 2 (.nat .u8 0) (.nat .u8 0))) (.cat 2 4 (.cat 1 2 (.nat .u8 0) (.nat .u8
    0)) (.cat 1 2 (.nat .u8 0) (.nat .u8 0))))) (.cat 2 4 (.cat 1 2 (.nat .u8 0) (.nat .u8 0)) (.cat 1 2 (.nat .u8 0) (.nat .u8 38)))) (.cat 4 28 (.cat 2 4
    (.cat 1 2 (.nat .u8 194) (.nat .u8 190)) (.cat 1 2 (.nat .u8 81) (.nat .u8 128))) (.rep 24 (.nat .u8 0)))) (.rep 56 (.nat .u8 0))) (.rep 140 (.nat .u8 0)))
    (.rep 260 (.nat .u8 0))) (.cat 252 512 (.cat 112 252 (.cat 56 112 (.cat 28 56 (.cat 24 28 (.cat 16 24 (.cat 8 16 (.cat 4 8 (.cat 2 4 (.cat 1 2 (.nat .u8 99)
    (.nat .u8 105)) (.cat 1 2 (.nat .u8 98) (.nat .u8 111))) (.cat 2 4 (.cat 1 2 (.nat .u8 5) (.nat .u8 0)) (.cat 1 2 (.nat .u8 0) (.nat .u8 0)))) (.cat 4 8
    (.cat 2 4 (.cat 1 2 (.nat .u8 0) (.nat .u8 0)) (.cat 1 2 (.nat .u8 0) (.nat .u8 0))) (.cat 2 4 (.cat 1 2 (.nat .u8 0) (.nat .u8 0)) (.cat 1 2 (.nat .u8 0)
    (.nat .u8 1))))) (.cat 4 8 (.cat 2 4 (.cat 1 2 (.nat .u8 0) (.nat .u8 0)) (.cat 1 2 (.nat .u8 0) (.nat .u8 0))) (.cat 2 4 (.cat 1 2 (.nat .u8 0) (.nat .u8
    0)) (.cat 1 2 (.nat .u8 0) (.nat .u8 0))))) (.cat 2 4 (.cat 1 2 (.nat .u8 0) (.nat .u8 0)) (.cat 1 2 (.nat .u8 0) (.nat .u8 39)))) (.cat 4 28 (.cat 2 4
    (.cat 1 2 (.nat .u8 28) (.nat .u8 140)) (.cat 1 2 (.nat .u8 229) (.nat .u8 56))) (.rep 24 (.nat .u8 0)))) (.rep 56 (.nat .u8 0))) (.rep 140 (.nat .u8 0)))
    (.rep 260 (.nat .u8 0)))) (.cat 512 1024 (.cat 252 512 (.cat 112 252 (.cat 56 112 (.cat 28 56 (.cat 24 28 (.cat 16 24 (.cat 8 16 (.cat 4 8 (.cat 2 4 (.cat 1
    2 (.nat .u8 99) (.nat .u8 105)) (.cat 1 2 (.nat .u8 98) (.nat .u8 111))) (.cat 2 4 (.cat 1 2 (.nat .u8 5) (.nat .u8 0)) (.cat 1 2 (.nat .u8 0) (.nat .u8
    0)))) (.cat 4 8 (.cat 2 4 (.cat 1 2 (.nat .u8 0) (.nat .u8 0)) (.cat 1 2 (.nat .u8 0) (.nat .u8 0))) (.cat 2 4 (.cat 1 2 (.nat .u8 0) (.nat .u8 0)) (.cat 1
    2 (.nat .u8 0) (.nat .u8 1))))) (.cat 4 8 (.cat 2 4 (.cat 1 2 (.nat .u8 0) (.nat .u8 0)) (.cat 1 2 (.nat .u8 0) (.nat .u8 0))) (.cat 2 4 (.cat 1 2 (.nat .u8
    0) (.nat .u8 0)) (.cat 1 2 (.nat .u8 0) (.nat .u8 0))))) (.cat 2 4 (.cat 1 2 (.nat .u8 0) (.nat .u8 0)) (.cat 1 2 (.nat .u8 0) (.nat .u8 40)))) (.cat 4 28
    (.cat 2 4 (.cat 1 2 (.nat .u8 224) (.nat .u8 53)) (.cat 1 2 (.nat .u8 148) (.nat .u8 20))) (.rep 24 (.nat .u8 0)))) (.rep 56 (.nat .u8 0))) (.rep 140 (.nat
    .u8 0))) (.rep 260 (.nat .u8 0))) (.cat 252 512 (.cat 112 252 (.cat 56 112 (.cat 28 56 (.cat 24 28 (.cat 16 24 (.cat 8 16 (.cat 4 8 (.cat 2 4 (.cat 1 2
    (.nat .u8 99) (.nat .u8 105)) (.cat 1 2 (.nat .u8 98) (.nat .u8 111))) (.cat 2 4 (.cat 1 2 (.nat .u8 5) (.nat .u8 0)) (.cat 1 2 (.nat .u8 0) (.nat .u8 0))))
    (.cat 4 8 (.cat 2 4 (.cat 1 2 (.nat .u8 0) (.nat .u8 0)) (.cat 1 2 (.nat .u8 0) (.nat .u8 0))) (.cat 2 4 (.cat 1 2 (.nat .u8 0) (.nat .u8 0)) (.cat 1 2
    (.nat .u8 0) (.nat .u8 1))))) (.cat 4 8 (.cat 2 4 (.cat 1 2 (.nat .u8 0) (.nat .u8 0)) (.cat 1 2 (.nat .u8 0) (.nat .u8 0))) (.cat 2 4 (.cat 1 2 (.nat .u8
    0) (.nat .u8 0)) (.cat 1 2 (.nat .u8 0) (.nat .u8 0))))) (.cat 2 4 (.cat 1 2 (.nat .u8 0) (.nat .u8 0)) (.cat 1 2 (.nat .u8 0) (.nat .u8 41)))) (.cat 4 28
    (.cat 2 4 (.cat 1 2 (.nat .u8 62) (.nat .u8 7)) (.cat 1 2 (.nat .u8 32) (.nat .u8 172))) (.rep 24 (.nat .u8 0)))) (.rep 56 (.nat .u8 0))) (.rep 140 (.nat
    .u8 0))) (.rep 260 (.nat .u8 0)))))))))) none)
noncomputable def laid102 : Blk :=
  (.cells 69 (.cat 1 6 (.sl 100 0 104 104 none) (.cat 1 5 (.map 101) (.cat 1 4 (.bool .false) (.cat 1 3 (.nat .i64 0) (.cat 1 2 (.nat .i64 112) (.nat .i64 7))))))
    none)
noncomputable def laidL : List (Nat × Blk) := [(1419, laid1419), (1153, laid1153), (1154, laid1154), (1420, laid1420), (1490, laid1490), (1491, laid1491), (101, laid101), (100, laid100), (102, laid102)]
noncomputable def laidV : V := (.tup (.cat 1 2 (.ptr 102 0) (.ptr 1491 0)))
noncomputable def laidA : V := .cat 1 2 (.nat .i64 40) (.nat .i64 60)
noncomputable def laidStart : HS := HS.mk (NT.fill none 14) 100
noncomputable def laidEnd : Nat := 1492
/-- is it what stands above? -/
noncomputable def chkLaid (c : Cs) : Bool := Cs.rec (motive := fun _ => Bool) (fun v h => bi (decide (v = laidV)) (bi (Nat.beq h.c laidEnd) (laidL.all fun p => decide (h.get p.1 = some p.2)) false) false) (fun _ _ _ => false) c
end Go.AE

namespace Go.AE
open Go Go.RowKit
set_option maxRecDepth 100000

/-! Laid(40, 60) as a whole -/
noncomputable def putAll (h : HS) : List (Nat × Blk) → HS
  | [] => h
  | p :: l => (putAll h l).set p.1 (some p.2)
/-- nothing lies at the numbers from c to n -/
noncomputable def allN (h : HS) (c n : Nat) : Bool := Nat.rec (motive := fun _ => Bool) true (fun i ih => bi (bi (Nat.ble c i) (isNoneB (h.get i)) true) ih false) n
noncomputable def ovLaid (a : V) (h : HS) : Cs := csOf 7 (bi (decide (a = laidA)) (bi (Nat.ble h.c 100) (bi (allN h h.c laidEnd) (some (VH.mk laidV (HS.mk (putAll h laidL).m laidEnd))) none) none) none)

theorem bi_both {a b : Bool} (h : bi a b false = true) : a = true ∧ b = true := by
  cases a
  · cases h
  · exact ⟨rfl, h⟩

theorem allN_eq {h : HS} {c : Nat} : ∀ {n : Nat}, allN h c n = true → ∀ i, c ≤ i → i < n → h.get i = none
  | 0, _, i, _, h2 => by omega
  | n + 1, hn, i, h1, h2 => by
    replace hn : bi (bi (Nat.ble c n) (isNoneB (h.get n)) true) (allN h c n) false = true := hn
    obtain ⟨h3, h4⟩ := bi_both hn
    by_cases e : i = n
    · subst e
      rw [ble_iff.2 h1] at h3
      cases hg : h.get i with
      | none => rfl
      | some b => rw [hg] at h3; cases h3
    · exact allN_eq h4 i h1 (by omega)

theorem putAll_c {h : HS} : ∀ {l : List (Nat × Blk)}, (putAll h l).c = h.c
  | [] => rfl
  | p :: l => by show ((putAll h l).set p.1 (some p.2)).c = _; rw [HS.set_c]; exact putAll_c
theorem putAll_fn {h : HS} : ∀ {l : List (Nat × Blk)}, (∀ p ∈ l, p.1 < 16384) → ∀ i, ((∃ b, (i, b) ∈ l ∧ (putAll h l).fn i = some b) ∨ ((∀ p ∈ l, p.1 ≠ i) ∧ (putAll h l).fn i = h.fn i))
  | [], _, i => .inr ⟨fun p hp => (by cases hp), rfl⟩
  | p :: l, hl, i => by
    have hf := HS.set_fn (putAll h l) (hl p (List.mem_cons_self ..)) (some p.2) i
    have ih := putAll_fn (h := h) (l := l) (fun q hq => hl q (List.mem_cons_of_mem _ hq)) i
    by_cases e : i = p.1
    · subst e
      rw [if_pos rfl] at hf
      exact .inl ⟨p.2, List.mem_cons_self .., hf⟩
    · rw [if_neg e] at hf
      rcases ih with ⟨b, h1, h2⟩ | ⟨h1, h2⟩
      · exact .inl ⟨b, List.mem_cons_of_mem _ h1, hf.trans h2⟩
      · refine .inr ⟨fun q hq => ?_, hf.trans h2⟩
        rcases List.mem_cons.1 hq with rfl | hq
        · exact Ne.symm e
        · exact h1 q hq

theorem laidL_range : (laidL.all fun p => Nat.ble 100 p.1 && Nat.ble (p.1 + 1) 1492) = true := by decide

theorem chkLaid_eq {c : Cs} (h : chkLaid c = true) : ∃ h', c = .ok laidV h' ∧ h'.c = laidEnd ∧ ∀ p ∈ laidL, h'.get p.1 = some p.2 := by
  cases c with
  | bad a b c => cases h
  | ok v h' =>
    replace h : bi (decide (v = laidV)) (bi (Nat.beq h'.c laidEnd) (laidL.all fun p => decide (h'.get p.1 = some p.2)) false) false = true := h
    rw [bi_if] at h
    split at h
    · rename_i hv
      have hv := of_decide_eq_true hv
      rw [bi_if] at h
      split at h
      · rename_i hc
        rw [List.all_eq_true] at h
        exact ⟨h', by rw [hv], beq_iff.1 hc, fun p hp => of_decide_eq_true (h p hp)⟩
      · cases h
    · cases h

theorem ovLaid_ok (hrun : chkLaid ((evalFn EE (fov1 EE) lov0 60 7).out laidA laidStart) = true) {B : Nat} {w0 : World} (ht : Table w0) (hB : 0 < B) : FnOK PP B w0 7 ovLaid := by
  intro σ a args h w v h' ha hr hu hrn
  have hy := csOf_eq hrn
  rw [bi_eq] at hy
  obtain ⟨ha1, hy⟩ | ⟨_, e⟩ := hy
  case inr => cases e
  rw [bi_eq] at hy
  obtain ⟨hc, hy⟩ | ⟨_, e⟩ := hy
  case inr => cases e
  rw [bi_eq] at hy
  obtain ⟨hfr, e⟩ | ⟨_, e⟩ := hy
  case inr => cases e
  cases e
  have ea := of_decide_eq_true ha1
  subst ea
  have hc := ble_iff.1 hc
  have hfree := allN_eq hfr
  have hrange : ∀ p ∈ laidL, 100 ≤ p.1 ∧ p.1 < 1492 := fun p hp => by
    have := List.all_eq_true.1 laidL_range p hp
    rw [Bool.and_eq_true] at this
    exact ⟨ble_iff.1 this.1, ble_iff.1 this.2⟩
  have hend : laidEnd = 1492 := rfl
  -- the run, from nothing
  obtain ⟨hL, hLr, hLc, hLg⟩ := chkLaid_eq hrun
  have htw : Table w := by
    obtain ⟨e, fz, h0⟩ := ht
    exact ⟨e, fz, by rw [hr.keep.block 0 hB]; exact h0⟩
  have hE := env_ok (B := w.heap.size) (w0 := w) htw.pos htw
  have ha0 : SR noVal laidA args := by
    obtain ⟨x, y, hx, hy, h1, h2, e⟩ := ha
    exact ⟨x, y, hx, hy, h1, h2, e⟩
  refine Calls.mono ((calls1 hE 60).1 7 noVal laidA args laidStart w laidV hL ha0 (noVal_rel _ w) (noVal_und _ _) hLr) ?_
  intro e w' he
  cases e with
  | panicked c => exact he.elim
  | outgrown => exact he.elim
  | returned x =>
    obtain ⟨σL, hs, hv⟩ := he
    have hLfn : ∀ p ∈ laidL, hL.fn p.1 = some p.2 := fun p hp => by
      rw [← HS.get_eq hL (by have := hrange p hp; omega)]; exact hLg p hp
    have houtL : ∀ i, (i < 100 ∨ 1492 ≤ i) → σL.blk i = none ∧ σL.cap i = none ∧ σL.opq i = none := fun i hi => by
      have hi' : i < laidStart.c ∨ hL.c ≤ i := by rw [hLc]; exact hi
      exact ⟨hs.ext.blk i rfl hi', hs.ext.cap i rfl hi', hs.ext.opq i rfl hi'⟩
    let σ' : Val := ⟨fun i => if h.c ≤ i ∧ i < 1492 then σL.blk i else σ.blk i, fun i => if h.c ≤ i ∧ i < 1492 then σL.cap i else σ.cap i, fun i => if h.c ≤ i ∧ i < 1492 then σL.opq i else σ.opq i⟩
    have hund := hu
    have hleL : σL.le σ' := by
      refine ⟨fun i b hb => ?_, fun i b hb => ?_, fun i b hb => ?_⟩
      · have : ¬ (i < 100 ∨ 1492 ≤ i) := fun h => by rw [(houtL i h).1] at hb; cases hb
        show (if h.c ≤ i ∧ i < 1492 then _ else _) = _
        rw [if_pos (by omega)]; exact hb
      · have : ¬ (i < 100 ∨ 1492 ≤ i) := fun h => by rw [(houtL i h).2.1] at hb; cases hb
        show (if h.c ≤ i ∧ i < 1492 then _ else _) = _
        rw [if_pos (by omega)]; exact hb
      · have : ¬ (i < 100 ∨ 1492 ≤ i) := fun h => by rw [(houtL i h).2.2] at hb; cases hb
        show (if h.c ≤ i ∧ i < 1492 then _ else _) = _
        rw [if_pos (by omega)]; exact hb
    have hext : Ext σ σ' h.c 1492 := by
      refine ⟨⟨fun i b hb => ?_, fun i b hb => ?_, fun i b hb => ?_⟩, fun i hi hc' => ?_, fun i hi hc' => ?_, fun i hi hc' => ?_⟩
      · show (if h.c ≤ i ∧ i < 1492 then _ else _) = _
        rw [if_neg (fun ⟨h1, h2⟩ => by rw [hund.blk i h1 h2] at hb; cases hb)]; exact hb
      · show (if h.c ≤ i ∧ i < 1492 then _ else _) = _
        rw [if_neg (fun ⟨h1, h2⟩ => by rw [hund.cap i h1 h2] at hb; cases hb)]; exact hb
      · show (if h.c ≤ i ∧ i < 1492 then _ else _) = _
        rw [if_neg (fun ⟨h1, h2⟩ => by rw [hund.opq i h1 h2] at hb; cases hb)]; exact hb
      · show (if h.c ≤ i ∧ i < 1492 then _ else _) = _
        rw [if_neg (by omega)]; exact hi
      · show (if h.c ≤ i ∧ i < 1492 then _ else _) = _
        rw [if_neg (by omega)]; exact hi
      · show (if h.c ≤ i ∧ i < 1492 then _ else _) = _
        rw [if_neg (by omega)]; exact hi
    -- what lies in the heap
    have hpf := putAll_fn (h := h) (l := laidL) (fun p hp => by have := hrange p hp; omega)
    have hnew : ∀ i, (HS.mk (putAll h laidL).m laidEnd).fn i = (putAll h laidL).fn i := fun _ => rfl
    have live : ∀ i n, (HS.mk (putAll h laidL).m laidEnd).fn i ≠ none → σ'.blk i = some n →
        (∃ b, (i, b) ∈ laidL ∧ (HS.mk (putAll h laidL).m laidEnd).fn i = some b ∧ hL.fn i = some b ∧ σL.blk i = some n ∧ w.heap.size ≤ n) ∨
        (∃ b, (HS.mk (putAll h laidL).m laidEnd).fn i = some b ∧ h.fn i = some b ∧ σ.blk i = some n ∧ n < w.heap.size) := by
      intro i n h1 h2
      have h2' : (if h.c ≤ i ∧ i < 1492 then σL.blk i else σ.blk i) = some n := h2
      rcases hpf i with ⟨b, h3, h4⟩ | ⟨h3, h4⟩
      · have hri := hrange _ h3
        simp only at hri
        rw [if_pos (by omega)] at h2'
        exact .inl ⟨b, h3, h4, hLfn _ h3, h2', hs.rel.own i n (by rw [hLfn _ h3]; simp) h2'⟩
      · rw [hnew, h4] at h1
        by_cases hi : h.c ≤ i ∧ i < 1492
        · exfalso
          have := hfree i hi.1 hi.2
          rw [HS.get_eq h (by omega)] at this
          exact h1 this
        · rw [if_neg hi] at h2'
          cases hb : h.fn i with
          | none => exact absurd hb h1
          | some b => exact .inr ⟨b, by rw [hnew, h4]; exact hb, rfl, h2', hr.lt hb h2'⟩
    have hkeep := hs.rel.keep
    refine ⟨σ', ⟨hext, ⟨fun i b n h1 h2 => ?_, fun i j n h1 h1' h2 h2' => ?_, fun i n h1 => ?_, fun i n h1 h2 => ?_, hr.keep.trans (hkeep.mono hr.base), Nat.le_trans hr.base hkeep.size⟩, by show h.c ≤ 1492; omega, hkeep.size, fun b hb _ => hkeep.block b hb, fun i n h1 h2 hn => ?_, fun i h1 h2 => ?_⟩, hv.mono hleL⟩
    · rcases live i n (by rw [h1]; simp) h2 with ⟨b', g1, g2, g3, g4, g5⟩ | ⟨b', g1, g2, g3, g4⟩
      · rw [h1] at g2; cases g2
        exact (hs.rel.blk i b n g3 g4).mono PP hleL
      · rw [h1] at g1; cases g1
        rw [hkeep.block n g4]
        exact (hr.blk i b n g2 g3).mono PP hext.le
    · rcases live i n h1 h2 with ⟨b, g1, g2, g3, g4, g5⟩ | ⟨b, g1, g2, g3, g4⟩ <;> rcases live j n h1' h2' with ⟨b', k1, k2, k3, k4, k5⟩ | ⟨b', k1, k2, k3, k4⟩
      · exact hs.rel.inj i j n (by rw [g3]; simp) (by rw [k3]; simp) g4 k4
      · omega
      · omega
      · exact hr.inj i j n (by rw [g2]; simp) (by rw [k2]; simp) g3 k3
    · have h1' : (if h.c ≤ i ∧ i < 1492 then σL.blk i else σ.blk i) = some n := h1
      split at h1'
      · omega
      · exact hr.dom i n h1'
    · rcases live i n h1 h2 with ⟨b, g1, g2, g3, g4, g5⟩ | ⟨b, g1, g2, g3, g4⟩
      · have := hr.base; omega
      · exact hr.own i n (by rw [g2]; simp) g3
    · rcases live i n h1 h2 with ⟨b, g1, g2, g3, g4, g5⟩ | ⟨b, g1, g2, g3, g4⟩
      · omega
      · exact ⟨i, by rw [g2]; simp, g3⟩
    · rcases hpf i with ⟨b, h3, h4⟩ | ⟨h3, h4⟩
      · have hri := hrange _ h3
        simp only at hri
        have h2 : i < h.c ∨ 1492 ≤ i := h2
        omega
      · rw [hnew]; exact h4
end Go.AE

namespace Go.AE
open Go Go.RowKit
set_option maxRecDepth 100000

/-! with Laid, and works() as a whole -/
noncomputable def fovL (f : Nat) : Option (V → HS → Cs) := bi (Nat.beq f 7) (some ovLaid) (fov1 EE f)
noncomputable def ovWorks (a : V) (h : HS) : Cs := csOf 12 (bi (Nat.beq a.size 0) (some (VH.mk (.bool true) h)) none)
noncomputable def fovW (f : Nat) : Option (V → HS → Cs) := bi (Nat.beq f 12) (some ovWorks) (fovL f)

def LaidRun : Prop := chkLaid ((evalFn EE (fov1 EE) lov0 60 7).out laidA laidStart) = true
def WorksRun : Prop := isTrueC ((evalFn EE fovL lov0 60 12).out .nil HS.empty) = true
def NilRun : Prop := isTrueC ((evalFn EE fovW lov0 60 3).out argO HS.empty) = true

theorem fovL_ok (h7 : LaidRun) {B : Nat} {w0 : World} (ht : Table w0) (hB : 0 < B) (f : Nat) (g : V → HS → Cs) (hf : fovL f = some g) :
    FnOK PP B w0 f g ∧ ∀ args w v h a0 h', g a0 h = .ok v h' → (callFunc f args).run PP w = .ok (.enter f args) w := by
  have hE := env_ok (B := B) (w0 := w0) hB ht
  unfold fovL at hf
  rw [bi_eq] at hf
  rcases hf with ⟨h6, e⟩ | ⟨_, e⟩
  · have h6 := beq_iff.1 h6
    subst h6
    cases e
    exact ⟨ovLaid_ok h7 ht hB, fun args w _ _ _ _ _ => enter_ok names_ok Go.Proofs.Tryz.func7 rfl args w⟩
  · exact fov1_ok hE f g e

theorem callsL (h7 : LaidRun) {B : Nat} {w0 : World} (ht : Table w0) (hB : 0 < B) (d : Nat) : CallOK PP B w0 (evalFn EE fovL lov0 d) ∧ Enters PP (evalFn EE fovL lov0 d) := by
  have hE := env_ok (B := B) (w0 := w0) hB ht
  exact fn_ok hE (fovL_ok h7 ht hB) (fun call hc hen nt hnt fn id ops => hdr_ok hE call hc hen nt hnt fn id ops) (fun _ _ _ f fn body hf hb _ => lov_all f fn body hf hb) d

theorem ovWorks_ok (h7 : LaidRun) (h12 : WorksRun) {B : Nat} {w0 : World} (ht : Table w0) (hB : 0 < B) : FnOK PP B w0 12 ovWorks := by
  intro σ a args h w v h' ha hr hu hrn
  have hy := csOf_eq hrn
  simp only [bi_eq, beq_iff] at hy
  obtain ⟨hsz, e⟩ | ⟨_, e⟩ := hy <;> cases e
  have hn : args = [] := List.length_eq_zero_iff.1 (ha.len.trans hsz)
  subst hn
  have htw : Table w := by
    obtain ⟨e, fz, h0⟩ := ht
    exact ⟨e, fz, by rw [hr.keep.block 0 hB]; exact h0⟩
  obtain ⟨hL, hLr⟩ := isTrueC_eq h12
  refine Calls.mono ((callsL h7 htw htw.pos 60).1 12 noVal .nil [] HS.empty w (.bool true) hL rfl (noVal_rel _ w) (noVal_und _ _) hLr) ?_
  intro e w' he
  cases e with
  | returned x =>
    obtain ⟨σ', hs, hv⟩ := he
    exact ⟨σ, St.below hr hs.rel.keep, by rw [VR_bool hv]; exact VR.bool⟩
  | panicked c => exact he.elim
  | outgrown => exact he.elim

theorem callsW (h7 : LaidRun) (h12 : WorksRun) {B : Nat} {w0 : World} (ht : Table w0) (hB : 0 < B) (d : Nat) : CallOK PP B w0 (evalFn EE fovW lov0 d) ∧ Enters PP (evalFn EE fovW lov0 d) := by
  have hE := env_ok (B := B) (w0 := w0) hB ht
  refine fn_ok hE (fun f g hf => ?_) (fun call hc hen nt hnt fn id ops => hdr_ok hE call hc hen nt hnt fn id ops) (fun _ _ _ f fn body hf hb _ => lov_all f fn body hf hb) d
  unfold fovW at hf
  rw [bi_eq] at hf
  rcases hf with ⟨h6, e⟩ | ⟨_, e⟩
  · have h6 := beq_iff.1 h6
    subst h6
    cases e
    exact ⟨ovWorks_ok h7 h12 ht hB, fun args w _ _ _ _ _ => enter_ok names_ok Go.Proofs.Tryz.func12 rfl args w⟩
  · exact fovL_ok h7 ht hB f g e

theorem storeNil_calls (h7 : LaidRun) (h12 : WorksRun) (h3 : NilRun) {w : World} (ht : Table w) {a b c : Int} {s t : ByteArray} {x : Value} (hx : x.oneCell' = true) :
    Calls PP 3 #[.agg #[.int .i64 a, .int .i64 b, .string s, .string t, .int .i64 c, x]] w fun e w' => e = .returned (.bool true) ∧ Below w.heap.size w w' := by
  obtain ⟨h', hr⟩ := isTrueC_eq h3
  refine Calls.mono ((callsW h7 h12 ht ht.pos 60).1 3 noVal argO _ HS.empty w (.bool true) h' (argO_SR hx) (noVal_rel _ w) (noVal_und _ _) hr) ?_
  intro e w' he
  cases e with
  | returned x =>
    obtain ⟨σ', hs, hv⟩ := he
    exact ⟨by rw [VR_bool hv], hs.rel.keep⟩
  | panicked c => exact he.elim
  | outgrown => exact he.elim
end Go.AE
