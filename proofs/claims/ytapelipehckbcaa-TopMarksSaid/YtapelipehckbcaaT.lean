import Derived.Test.YtapelipehckbcaaProg
import Derived.Test.YtapelipehckbcaaAvK
import Derived.KernelRfl
namespace Go.Proofs
open Go.AV
theorem Try.mixed : Try.prog.follows .mixedOrders = true := by kernel_rfl
theorem Try.sh2 : shp Try.prog 2 = some (false, 1) := by kernel_rfl
theorem Try.z2 : zeroOf Try.prog 2 = some (.int .i64 0) := by kernel_rfl
theorem Try.by2 : bytesOf Try.prog 2 = some 8 := by kernel_rfl
theorem Try.ui2 : Try.prog.underlying 2 = some (.int .i64) := by kernel_rfl
theorem Try.sh3 : shp Try.prog 3 = some (false, 1) := by kernel_rfl
theorem Try.z3 : zeroOf Try.prog 3 = some (.int .i64 0) := by kernel_rfl
theorem Try.by3 : bytesOf Try.prog 3 = some 8 := by kernel_rfl
theorem Try.ui3 : Try.prog.underlying 3 = some (.int .i64) := by kernel_rfl
theorem Try.sh4 : shp Try.prog 4 = some (false, 1) := by kernel_rfl
theorem Try.z4 : zeroOf Try.prog 4 = some (.bool false) := by kernel_rfl
theorem Try.by4 : bytesOf Try.prog 4 = some 1 := by kernel_rfl
theorem Try.sh5 : shp Try.prog 5 = some (false, 1) := by kernel_rfl
theorem Try.z5 : zeroOf Try.prog 5 = some (.int .u8 0) := by kernel_rfl
theorem Try.by5 : bytesOf Try.prog 5 = some 1 := by kernel_rfl
theorem Try.ui5 : Try.prog.underlying 5 = some (.int .u8) := by kernel_rfl
theorem Try.sh6 : shp Try.prog 6 = some (false, 1) := by kernel_rfl
theorem Try.z6 : zeroOf Try.prog 6 = some (.int .u8 0) := by kernel_rfl
theorem Try.by6 : bytesOf Try.prog 6 = some 1 := by kernel_rfl
theorem Try.ui6 : Try.prog.underlying 6 = some (.int .u8) := by kernel_rfl
theorem Try.sh7 : shp Try.prog 7 = some (true, 4) := by kernel_rfl
theorem Try.z7 : zeroOf Try.prog 7 = some (.agg #[.int .i64 0, .int .i64 0, .bool false, .int .u8 0]) := by kernel_rfl
theorem Try.by7 : bytesOf Try.prog 7 = some 24 := by kernel_rfl
theorem Try.f7_0 : fldOf Try.prog 7 0 = some (0, false, 1) := by kernel_rfl
theorem Try.f7_1 : fldOf Try.prog 7 1 = some (1, false, 1) := by kernel_rfl
theorem Try.f7_2 : fldOf Try.prog 7 2 = some (2, false, 1) := by kernel_rfl
theorem Try.f7_3 : fldOf Try.prog 7 3 = some (3, false, 1) := by kernel_rfl
theorem Try.pl7 : placesOf Try.prog 7 = some [(0, 1), (1, 1), (2, 1), (3, 1)] := by kernel_rfl
theorem Try.sh8 : shp Try.prog 8 = some (true, 4) := by kernel_rfl
theorem Try.z8 : zeroOf Try.prog 8 = some (.agg #[.int .i64 0, .int .i64 0, .bool false, .int .u8 0]) := by kernel_rfl
theorem Try.by8 : bytesOf Try.prog 8 = some 24 := by kernel_rfl
theorem Try.f8_0 : fldOf Try.prog 8 0 = some (0, false, 1) := by kernel_rfl
theorem Try.f8_1 : fldOf Try.prog 8 1 = some (1, false, 1) := by kernel_rfl
theorem Try.f8_2 : fldOf Try.prog 8 2 = some (2, false, 1) := by kernel_rfl
theorem Try.f8_3 : fldOf Try.prog 8 3 = some (3, false, 1) := by kernel_rfl
theorem Try.pl8 : placesOf Try.prog 8 = some [(0, 1), (1, 1), (2, 1), (3, 1)] := by kernel_rfl
theorem Try.sh9 : shp Try.prog 9 = some (false, 1) := by kernel_rfl
theorem Try.z9 : zeroOf Try.prog 9 = some (.string ByteArray.empty) := by kernel_rfl
theorem Try.by9 : bytesOf Try.prog 9 = some 16 := by kernel_rfl
theorem Try.ustr9 : Try.prog.underlying 9 = some .string := by kernel_rfl
theorem Try.sh10 : shp Try.prog 10 = some (false, 1) := by kernel_rfl
theorem Try.z10 : zeroOf Try.prog 10 = some (.string ByteArray.empty) := by kernel_rfl
theorem Try.by10 : bytesOf Try.prog 10 = some 16 := by kernel_rfl
theorem Try.ustr10 : Try.prog.underlying 10 = some .string := by kernel_rfl
theorem Try.sh11 : shp Try.prog 11 = some (false, 1) := by kernel_rfl
theorem Try.z11 : zeroOf Try.prog 11 = some (.string ByteArray.empty) := by kernel_rfl
theorem Try.by11 : bytesOf Try.prog 11 = some 16 := by kernel_rfl
theorem Try.ustr11 : Try.prog.underlying 11 = some .string := by kernel_rfl
theorem Try.sh12 : shp Try.prog 12 = some (false, 1) := by kernel_rfl
theorem Try.z12 : zeroOf Try.prog 12 = some (.int .u64 0) := by kernel_rfl
theorem Try.by12 : bytesOf Try.prog 12 = some 8 := by kernel_rfl
theorem Try.ui12 : Try.prog.underlying 12 = some (.int .u64) := by kernel_rfl
theorem Try.sh13 : shp Try.prog 13 = some (true, 2) := by kernel_rfl
theorem Try.z13 : zeroOf Try.prog 13 = some (.agg #[.string ByteArray.empty, .int .u64 0]) := by kernel_rfl
theorem Try.by13 : bytesOf Try.prog 13 = some 24 := by kernel_rfl
theorem Try.f13_0 : fldOf Try.prog 13 0 = some (0, false, 1) := by kernel_rfl
theorem Try.f13_1 : fldOf Try.prog 13 1 = some (1, false, 1) := by kernel_rfl
theorem Try.pl13 : placesOf Try.prog 13 = some [(0, 1), (1, 1)] := by kernel_rfl
theorem Try.sh14 : shp Try.prog 14 = some (true, 2) := by kernel_rfl
theorem Try.z14 : zeroOf Try.prog 14 = some (.agg #[.string ByteArray.empty, .int .u64 0]) := by kernel_rfl
theorem Try.by14 : bytesOf Try.prog 14 = some 24 := by kernel_rfl
theorem Try.f14_0 : fldOf Try.prog 14 0 = some (0, false, 1) := by kernel_rfl
theorem Try.f14_1 : fldOf Try.prog 14 1 = some (1, false, 1) := by kernel_rfl
theorem Try.pl14 : placesOf Try.prog 14 = some [(0, 1), (1, 1)] := by kernel_rfl
theorem Try.sh15 : shp Try.prog 15 = some (false, 1) := by kernel_rfl
theorem Try.z15 : zeroOf Try.prog 15 = some (.pointer none) := by kernel_rfl
theorem Try.by15 : bytesOf Try.prog 15 = some 8 := by kernel_rfl
theorem Try.sh16 : shp Try.prog 16 = some (false, 1) := by kernel_rfl
theorem Try.z16 : zeroOf Try.prog 16 = some (.pointer none) := by kernel_rfl
theorem Try.by16 : bytesOf Try.prog 16 = some 8 := by kernel_rfl
theorem Try.sh17 : shp Try.prog 17 = some (false, 1) := by kernel_rfl
theorem Try.z17 : zeroOf Try.prog 17 = some (.pointer none) := by kernel_rfl
theorem Try.by17 : bytesOf Try.prog 17 = some 8 := by kernel_rfl
theorem Try.sh18 : shp Try.prog 18 = some (true, 1) := by kernel_rfl
theorem Try.z18 : zeroOf Try.prog 18 = some (.agg #[.pointer none]) := by kernel_rfl
theorem Try.by18 : bytesOf Try.prog 18 = some 8 := by kernel_rfl
theorem Try.f18_0 : fldOf Try.prog 18 0 = some (0, false, 1) := by kernel_rfl
theorem Try.pl18 : placesOf Try.prog 18 = some [(0, 1)] := by kernel_rfl
theorem Try.sh19 : shp Try.prog 19 = some (true, 1) := by kernel_rfl
theorem Try.z19 : zeroOf Try.prog 19 = some (.agg #[.pointer none]) := by kernel_rfl
theorem Try.by19 : bytesOf Try.prog 19 = some 8 := by kernel_rfl
theorem Try.f19_0 : fldOf Try.prog 19 0 = some (0, false, 1) := by kernel_rfl
theorem Try.pl19 : placesOf Try.prog 19 = some [(0, 1)] := by kernel_rfl
theorem Try.sh20 : shp Try.prog 20 = some (false, 1) := by kernel_rfl
theorem Try.z20 : zeroOf Try.prog 20 = some (.nilIface) := by kernel_rfl
theorem Try.by20 : bytesOf Try.prog 20 = some 16 := by kernel_rfl
theorem Try.sh21 : shp Try.prog 21 = some (false, 1) := by kernel_rfl
theorem Try.z21 : zeroOf Try.prog 21 = some (.int .i32 0) := by kernel_rfl
theorem Try.by21 : bytesOf Try.prog 21 = some 4 := by kernel_rfl
theorem Try.ui21 : Try.prog.underlying 21 = some (.int .i32) := by kernel_rfl
theorem Try.sh22 : shp Try.prog 22 = some (true, 4) := by kernel_rfl
theorem Try.z22 : zeroOf Try.prog 22 = some (.agg #[.int .u8 0, .int .u8 0, .int .u8 0, .int .u8 0]) := by kernel_rfl
theorem Try.by22 : bytesOf Try.prog 22 = some 4 := by kernel_rfl
theorem Try.ar22 : arrOf Try.prog 22 = some (4, false, 1) := by kernel_rfl
theorem Try.sh23 : shp Try.prog 23 = some (false, 1) := by kernel_rfl
theorem Try.z23 : zeroOf Try.prog 23 = some (.slice none 0 0) := by kernel_rfl
theorem Try.by23 : bytesOf Try.prog 23 = some 24 := by kernel_rfl
theorem Try.sl23 : sliOf Try.prog 23 = some (29, true, 2) := by kernel_rfl
theorem Try.us23 : Try.prog.underlying 23 = some (.slice 29) := by kernel_rfl
theorem Try.src23 : srcTy Try.prog 23 = true := by kernel_rfl
theorem Try.sh24 : shp Try.prog 24 = some (true, 4) := by kernel_rfl
theorem Try.z24 : zeroOf Try.prog 24 = some (.agg #[.int .i64 0, .int .i64 0, .int .i64 0, .int .i64 0]) := by kernel_rfl
theorem Try.by24 : bytesOf Try.prog 24 = some 32 := by kernel_rfl
theorem Try.ar24 : arrOf Try.prog 24 = some (4, false, 1) := by kernel_rfl
theorem Try.sh27 : shp Try.prog 27 = some (false, 1) := by kernel_rfl
theorem Try.z27 : zeroOf Try.prog 27 = some (.int .i8 0) := by kernel_rfl
theorem Try.by27 : bytesOf Try.prog 27 = some 1 := by kernel_rfl
theorem Try.ui27 : Try.prog.underlying 27 = some (.int .i8) := by kernel_rfl
theorem Try.sh28 : shp Try.prog 28 = some (true, 2) := by kernel_rfl
theorem Try.z28 : zeroOf Try.prog 28 = some (.agg #[.int .u8 0, .int .i8 0]) := by kernel_rfl
theorem Try.by28 : bytesOf Try.prog 28 = some 2 := by kernel_rfl
theorem Try.f28_0 : fldOf Try.prog 28 0 = some (0, false, 1) := by kernel_rfl
theorem Try.f28_1 : fldOf Try.prog 28 1 = some (1, false, 1) := by kernel_rfl
theorem Try.pl28 : placesOf Try.prog 28 = some [(0, 1), (1, 1)] := by kernel_rfl
theorem Try.sh29 : shp Try.prog 29 = some (true, 2) := by kernel_rfl
theorem Try.z29 : zeroOf Try.prog 29 = some (.agg #[.int .u8 0, .int .i8 0]) := by kernel_rfl
theorem Try.by29 : bytesOf Try.prog 29 = some 2 := by kernel_rfl
theorem Try.f29_0 : fldOf Try.prog 29 0 = some (0, false, 1) := by kernel_rfl
theorem Try.f29_1 : fldOf Try.prog 29 1 = some (1, false, 1) := by kernel_rfl
theorem Try.pl29 : placesOf Try.prog 29 = some [(0, 1), (1, 1)] := by kernel_rfl
theorem Try.sh31 : shp Try.prog 31 = some (true, 3) := by kernel_rfl
theorem Try.z31 : zeroOf Try.prog 31 = some (.agg #[.int .u8 0, .int .u8 0, .int .u8 0]) := by kernel_rfl
theorem Try.by31 : bytesOf Try.prog 31 = some 3 := by kernel_rfl
theorem Try.ar31 : arrOf Try.prog 31 = some (3, false, 1) := by kernel_rfl
theorem Try.sh32 : shp Try.prog 32 = some (false, 1) := by kernel_rfl
theorem Try.z32 : zeroOf Try.prog 32 = some (.slice none 0 0) := by kernel_rfl
theorem Try.by32 : bytesOf Try.prog 32 = some 24 := by kernel_rfl
theorem Try.sl32 : sliOf Try.prog 32 = some (34, true, 4) := by kernel_rfl
theorem Try.us32 : Try.prog.underlying 32 = some (.slice 34) := by kernel_rfl
theorem Try.src32 : srcTy Try.prog 32 = true := by kernel_rfl
theorem Try.sh33 : shp Try.prog 33 = some (true, 4) := by kernel_rfl
theorem Try.z33 : zeroOf Try.prog 33 = some (.agg #[.int .u8 0, .int .u8 0, .int .u8 0, .int .i8 0]) := by kernel_rfl
theorem Try.by33 : bytesOf Try.prog 33 = some 4 := by kernel_rfl
theorem Try.f33_0 : fldOf Try.prog 33 0 = some (0, false, 1) := by kernel_rfl
theorem Try.f33_1 : fldOf Try.prog 33 1 = some (1, false, 1) := by kernel_rfl
theorem Try.f33_2 : fldOf Try.prog 33 2 = some (2, false, 1) := by kernel_rfl
theorem Try.f33_3 : fldOf Try.prog 33 3 = some (3, false, 1) := by kernel_rfl
theorem Try.pl33 : placesOf Try.prog 33 = some [(0, 1), (1, 1), (2, 1), (3, 1)] := by kernel_rfl
theorem Try.sh34 : shp Try.prog 34 = some (true, 4) := by kernel_rfl
theorem Try.z34 : zeroOf Try.prog 34 = some (.agg #[.int .u8 0, .int .u8 0, .int .u8 0, .int .i8 0]) := by kernel_rfl
theorem Try.by34 : bytesOf Try.prog 34 = some 4 := by kernel_rfl
theorem Try.f34_0 : fldOf Try.prog 34 0 = some (0, false, 1) := by kernel_rfl
theorem Try.f34_1 : fldOf Try.prog 34 1 = some (1, false, 1) := by kernel_rfl
theorem Try.f34_2 : fldOf Try.prog 34 2 = some (2, false, 1) := by kernel_rfl
theorem Try.f34_3 : fldOf Try.prog 34 3 = some (3, false, 1) := by kernel_rfl
theorem Try.pl34 : placesOf Try.prog 34 = some [(0, 1), (1, 1), (2, 1), (3, 1)] := by kernel_rfl
theorem Try.sh38 : shp Try.prog 38 = some (false, 1) := by kernel_rfl
theorem Try.z38 : zeroOf Try.prog 38 = some (.slice none 0 0) := by kernel_rfl
theorem Try.by38 : bytesOf Try.prog 38 = some 24 := by kernel_rfl
theorem Try.sl38 : sliOf Try.prog 38 = some (43, false, 1) := by kernel_rfl
theorem Try.us38 : Try.prog.underlying 38 = some (.slice 43) := by kernel_rfl
theorem Try.src38 : srcTy Try.prog 38 = true := by kernel_rfl
theorem Try.sh39 : shp Try.prog 39 = some (false, 1) := by kernel_rfl
theorem Try.z39 : zeroOf Try.prog 39 = some (.slice none 0 0) := by kernel_rfl
theorem Try.by39 : bytesOf Try.prog 39 = some 24 := by kernel_rfl
theorem Try.sl39 : sliOf Try.prog 39 = some (5, false, 1) := by kernel_rfl
theorem Try.us39 : Try.prog.underlying 39 = some (.slice 5) := by kernel_rfl
theorem Try.src39 : srcTy Try.prog 39 = true := by kernel_rfl
theorem Try.sh40 : shp Try.prog 40 = some (false, 1) := by kernel_rfl
theorem Try.z40 : zeroOf Try.prog 40 = some (.slice none 0 0) := by kernel_rfl
theorem Try.by40 : bytesOf Try.prog 40 = some 24 := by kernel_rfl
theorem Try.sl40 : sliOf Try.prog 40 = some (45, false, 1) := by kernel_rfl
theorem Try.us40 : Try.prog.underlying 40 = some (.slice 45) := by kernel_rfl
theorem Try.src40 : srcTy Try.prog 40 = true := by kernel_rfl
theorem Try.sh41 : shp Try.prog 41 = some (true, 2) := by kernel_rfl
theorem Try.z41 : zeroOf Try.prog 41 = some (.agg #[.int .u8 0, .slice none 0 0]) := by kernel_rfl
theorem Try.by41 : bytesOf Try.prog 41 = some 32 := by kernel_rfl
theorem Try.f41_0 : fldOf Try.prog 41 0 = some (0, false, 1) := by kernel_rfl
theorem Try.f41_1 : fldOf Try.prog 41 1 = some (1, false, 1) := by kernel_rfl
theorem Try.pl41 : placesOf Try.prog 41 = some [(0, 1), (1, 1)] := by kernel_rfl
theorem Try.sh42 : shp Try.prog 42 = some (true, 2) := by kernel_rfl
theorem Try.z42 : zeroOf Try.prog 42 = some (.agg #[.int .u8 0, .slice none 0 0]) := by kernel_rfl
theorem Try.by42 : bytesOf Try.prog 42 = some 32 := by kernel_rfl
theorem Try.f42_0 : fldOf Try.prog 42 0 = some (0, false, 1) := by kernel_rfl
theorem Try.f42_1 : fldOf Try.prog 42 1 = some (1, false, 1) := by kernel_rfl
theorem Try.pl42 : placesOf Try.prog 42 = some [(0, 1), (1, 1)] := by kernel_rfl
theorem Try.sh43 : shp Try.prog 43 = some (false, 1) := by kernel_rfl
theorem Try.z43 : zeroOf Try.prog 43 = some (.slice none 0 0) := by kernel_rfl
theorem Try.by43 : bytesOf Try.prog 43 = some 24 := by kernel_rfl
theorem Try.sl43 : sliOf Try.prog 43 = some (42, true, 2) := by kernel_rfl
theorem Try.us43 : Try.prog.underlying 43 = some (.slice 42) := by kernel_rfl
theorem Try.src43 : srcTy Try.prog 43 = true := by kernel_rfl
theorem Try.sh45 : shp Try.prog 45 = some (false, 1) := by kernel_rfl
theorem Try.z45 : zeroOf Try.prog 45 = some (.int .u64 0) := by kernel_rfl
theorem Try.by45 : bytesOf Try.prog 45 = some 8 := by kernel_rfl
theorem Try.ui45 : Try.prog.underlying 45 = some (.int .u64) := by kernel_rfl
theorem Try.sh48 : shp Try.prog 48 = some (true, 8) := by kernel_rfl
theorem Try.z48 : zeroOf Try.prog 48 = some (.agg #[.int .i64 0, .int .i64 0, .int .i64 0, .int .i64 0, .int .i64 0, .int .i64 0, .int .i64 0, .int .i64 0]) := by kernel_rfl
theorem Try.by48 : bytesOf Try.prog 48 = some 64 := by kernel_rfl
theorem Try.f48_0 : fldOf Try.prog 48 0 = some (0, true, 4) := by kernel_rfl
theorem Try.f48_1 : fldOf Try.prog 48 1 = some (4, true, 4) := by kernel_rfl
theorem Try.pl48 : placesOf Try.prog 48 = some [(0, 4), (4, 4)] := by kernel_rfl
theorem Try.sh49 : shp Try.prog 49 = some (true, 8) := by kernel_rfl
theorem Try.z49 : zeroOf Try.prog 49 = some (.agg #[.int .i64 0, .int .i64 0, .int .i64 0, .int .i64 0, .int .i64 0, .int .i64 0, .int .i64 0, .int .i64 0]) := by kernel_rfl
theorem Try.by49 : bytesOf Try.prog 49 = some 64 := by kernel_rfl
theorem Try.f49_0 : fldOf Try.prog 49 0 = some (0, true, 4) := by kernel_rfl
theorem Try.f49_1 : fldOf Try.prog 49 1 = some (4, true, 4) := by kernel_rfl
theorem Try.pl49 : placesOf Try.prog 49 = some [(0, 4), (4, 4)] := by kernel_rfl
theorem Try.sh50 : shp Try.prog 50 = some (false, 1) := by kernel_rfl
theorem Try.z50 : zeroOf Try.prog 50 = some (.slice none 0 0) := by kernel_rfl
theorem Try.by50 : bytesOf Try.prog 50 = some 24 := by kernel_rfl
theorem Try.sl50 : sliOf Try.prog 50 = some (52, true, 2) := by kernel_rfl
theorem Try.us50 : Try.prog.underlying 50 = some (.slice 52) := by kernel_rfl
theorem Try.src50 : srcTy Try.prog 50 = true := by kernel_rfl
theorem Try.sh51 : shp Try.prog 51 = some (true, 2) := by kernel_rfl
theorem Try.z51 : zeroOf Try.prog 51 = some (.agg #[.int .i64 0, .int .i64 0]) := by kernel_rfl
theorem Try.by51 : bytesOf Try.prog 51 = some 16 := by kernel_rfl
theorem Try.f51_0 : fldOf Try.prog 51 0 = some (0, false, 1) := by kernel_rfl
theorem Try.f51_1 : fldOf Try.prog 51 1 = some (1, false, 1) := by kernel_rfl
theorem Try.pl51 : placesOf Try.prog 51 = some [(0, 1), (1, 1)] := by kernel_rfl
theorem Try.sh52 : shp Try.prog 52 = some (true, 2) := by kernel_rfl
theorem Try.z52 : zeroOf Try.prog 52 = some (.agg #[.int .i64 0, .int .i64 0]) := by kernel_rfl
theorem Try.by52 : bytesOf Try.prog 52 = some 16 := by kernel_rfl
theorem Try.f52_0 : fldOf Try.prog 52 0 = some (0, false, 1) := by kernel_rfl
theorem Try.f52_1 : fldOf Try.prog 52 1 = some (1, false, 1) := by kernel_rfl
theorem Try.pl52 : placesOf Try.prog 52 = some [(0, 1), (1, 1)] := by kernel_rfl
theorem Try.sh53 : shp Try.prog 53 = some (false, 1) := by kernel_rfl
theorem Try.z53 : zeroOf Try.prog 53 = some (.int .i64 0) := by kernel_rfl
theorem Try.by53 : bytesOf Try.prog 53 = some 8 := by kernel_rfl
theorem Try.ui53 : Try.prog.underlying 53 = some (.int .i64) := by kernel_rfl
theorem Try.sh65 : shp Try.prog 65 = some (false, 1) := by kernel_rfl
theorem Try.z65 : zeroOf Try.prog 65 = some (.slice none 0 0) := by kernel_rfl
theorem Try.by65 : bytesOf Try.prog 65 = some 24 := by kernel_rfl
theorem Try.sl65 : sliOf Try.prog 65 = some (3, false, 1) := by kernel_rfl
theorem Try.us65 : Try.prog.underlying 65 = some (.slice 3) := by kernel_rfl
theorem Try.src65 : srcTy Try.prog 65 = true := by kernel_rfl
theorem Try.sh66 : shp Try.prog 66 = some (false, 1) := by kernel_rfl
theorem Try.z66 : zeroOf Try.prog 66 = some (.pointer none) := by kernel_rfl
theorem Try.by66 : bytesOf Try.prog 66 = some 8 := by kernel_rfl
theorem Try.sh69 : shp Try.prog 69 = some (true, 6) := by kernel_rfl
theorem Try.z69 : zeroOf Try.prog 69 = some (.agg #[.int .i64 0, .int .i64 0, .int .i64 0, .int .i64 0, .int .i64 0, .int .i64 0]) := by kernel_rfl
theorem Try.by69 : bytesOf Try.prog 69 = some 48 := by kernel_rfl
theorem Try.ar69 : arrOf Try.prog 69 = some (6, false, 1) := by kernel_rfl
theorem Try.sh70 : shp Try.prog 70 = some (true, 18) := by kernel_rfl
theorem Try.z70 : zeroOf Try.prog 70 = some (.agg #[.int .i64 0, .int .i64 0, .int .i64 0, .int .i64 0, .int .i64 0, .int .i64 0, .int .i64 0, .int .i64 0, .int .i64 0, .int .i64 0, .int .i64 0, .int .i64 0, .int .i64 0, .int .i64 0, .int .i64 0, .int .i64 0, .int .i64 0, .int .i64 0]) := by kernel_rfl
theorem Try.by70 : bytesOf Try.prog 70 = some 144 := by kernel_rfl
theorem Try.ar70 : arrOf Try.prog 70 = some (3, true, 6) := by kernel_rfl
theorem Try.sh71 : shp Try.prog 71 = some (false, 1) := by kernel_rfl
theorem Try.z71 : zeroOf Try.prog 71 = some (.slice none 0 0) := by kernel_rfl
theorem Try.by71 : bytesOf Try.prog 71 = some 24 := by kernel_rfl
theorem Try.sl71 : sliOf Try.prog 71 = some (70, true, 18) := by kernel_rfl
theorem Try.us71 : Try.prog.underlying 71 = some (.slice 70) := by kernel_rfl
theorem Try.src71 : srcTy Try.prog 71 = true := by kernel_rfl
theorem Try.sh72 : shp Try.prog 72 = some (false, 1) := by kernel_rfl
theorem Try.z72 : zeroOf Try.prog 72 = some (.slice none 0 0) := by kernel_rfl
theorem Try.by72 : bytesOf Try.prog 72 = some 24 := by kernel_rfl
theorem Try.sl72 : sliOf Try.prog 72 = some (74, true, 4) := by kernel_rfl
theorem Try.us72 : Try.prog.underlying 72 = some (.slice 74) := by kernel_rfl
theorem Try.src72 : srcTy Try.prog 72 = true := by kernel_rfl
theorem Try.sh73 : shp Try.prog 73 = some (true, 4) := by kernel_rfl
theorem Try.z73 : zeroOf Try.prog 73 = some (.agg #[.int .i64 0, .int .i64 0, .int .i64 0, .int .i64 0]) := by kernel_rfl
theorem Try.by73 : bytesOf Try.prog 73 = some 32 := by kernel_rfl
theorem Try.f73_0 : fldOf Try.prog 73 0 = some (0, false, 1) := by kernel_rfl
theorem Try.f73_1 : fldOf Try.prog 73 1 = some (1, false, 1) := by kernel_rfl
theorem Try.f73_2 : fldOf Try.prog 73 2 = some (2, false, 1) := by kernel_rfl
theorem Try.f73_3 : fldOf Try.prog 73 3 = some (3, false, 1) := by kernel_rfl
theorem Try.pl73 : placesOf Try.prog 73 = some [(0, 1), (1, 1), (2, 1), (3, 1)] := by kernel_rfl
theorem Try.sh74 : shp Try.prog 74 = some (true, 4) := by kernel_rfl
theorem Try.z74 : zeroOf Try.prog 74 = some (.agg #[.int .i64 0, .int .i64 0, .int .i64 0, .int .i64 0]) := by kernel_rfl
theorem Try.by74 : bytesOf Try.prog 74 = some 32 := by kernel_rfl
theorem Try.f74_0 : fldOf Try.prog 74 0 = some (0, false, 1) := by kernel_rfl
theorem Try.f74_1 : fldOf Try.prog 74 1 = some (1, false, 1) := by kernel_rfl
theorem Try.f74_2 : fldOf Try.prog 74 2 = some (2, false, 1) := by kernel_rfl
theorem Try.f74_3 : fldOf Try.prog 74 3 = some (3, false, 1) := by kernel_rfl
theorem Try.pl74 : placesOf Try.prog 74 = some [(0, 1), (1, 1), (2, 1), (3, 1)] := by kernel_rfl
theorem Try.sh83 : shp Try.prog 83 = some (false, 1) := by kernel_rfl
theorem Try.z83 : zeroOf Try.prog 83 = some (.slice none 0 0) := by kernel_rfl
theorem Try.by83 : bytesOf Try.prog 83 = some 24 := by kernel_rfl
theorem Try.sl83 : sliOf Try.prog 83 = some (72, false, 1) := by kernel_rfl
theorem Try.us83 : Try.prog.underlying 83 = some (.slice 72) := by kernel_rfl
theorem Try.src83 : srcTy Try.prog 83 = true := by kernel_rfl
theorem Try.sh84 : shp Try.prog 84 = some (false, 1) := by kernel_rfl
theorem Try.z84 : zeroOf Try.prog 84 = some (.slice none 0 0) := by kernel_rfl
theorem Try.by84 : bytesOf Try.prog 84 = some 24 := by kernel_rfl
theorem Try.sl84 : sliOf Try.prog 84 = some (2, false, 1) := by kernel_rfl
theorem Try.us84 : Try.prog.underlying 84 = some (.slice 2) := by kernel_rfl
theorem Try.src84 : srcTy Try.prog 84 = true := by kernel_rfl
theorem Try.sh88 : shp Try.prog 88 = some (false, 1) := by kernel_rfl
theorem Try.z88 : zeroOf Try.prog 88 = some (.slice none 0 0) := by kernel_rfl
theorem Try.by88 : bytesOf Try.prog 88 = some 24 := by kernel_rfl
theorem Try.sl88 : sliOf Try.prog 88 = some (39, false, 1) := by kernel_rfl
theorem Try.us88 : Try.prog.underlying 88 = some (.slice 39) := by kernel_rfl
theorem Try.src88 : srcTy Try.prog 88 = true := by kernel_rfl
theorem Try.sh89 : shp Try.prog 89 = some (false, 1) := by kernel_rfl
theorem Try.z89 : zeroOf Try.prog 89 = some (.slice none 0 0) := by kernel_rfl
theorem Try.by89 : bytesOf Try.prog 89 = some 24 := by kernel_rfl
theorem Try.sl89 : sliOf Try.prog 89 = some (100, true, 2) := by kernel_rfl
theorem Try.us89 : Try.prog.underlying 89 = some (.slice 100) := by kernel_rfl
theorem Try.src89 : srcTy Try.prog 89 = true := by kernel_rfl
theorem Try.sh99 : shp Try.prog 99 = some (true, 2) := by kernel_rfl
theorem Try.z99 : zeroOf Try.prog 99 = some (.agg #[.int .i64 0, .slice none 0 0]) := by kernel_rfl
theorem Try.by99 : bytesOf Try.prog 99 = some 32 := by kernel_rfl
theorem Try.f99_0 : fldOf Try.prog 99 0 = some (0, false, 1) := by kernel_rfl
theorem Try.f99_1 : fldOf Try.prog 99 1 = some (1, false, 1) := by kernel_rfl
theorem Try.pl99 : placesOf Try.prog 99 = some [(0, 1), (1, 1)] := by kernel_rfl
theorem Try.sh100 : shp Try.prog 100 = some (true, 2) := by kernel_rfl
theorem Try.z100 : zeroOf Try.prog 100 = some (.agg #[.int .i64 0, .slice none 0 0]) := by kernel_rfl
theorem Try.by100 : bytesOf Try.prog 100 = some 32 := by kernel_rfl
theorem Try.f100_0 : fldOf Try.prog 100 0 = some (0, false, 1) := by kernel_rfl
theorem Try.f100_1 : fldOf Try.prog 100 1 = some (1, false, 1) := by kernel_rfl
theorem Try.pl100 : placesOf Try.prog 100 = some [(0, 1), (1, 1)] := by kernel_rfl
theorem Try.sh109 : shp Try.prog 109 = some (false, 1) := by kernel_rfl
theorem Try.z109 : zeroOf Try.prog 109 = some (.int .u64 0) := by kernel_rfl
theorem Try.by109 : bytesOf Try.prog 109 = some 8 := by kernel_rfl
theorem Try.ui109 : Try.prog.underlying 109 = some (.int .u64) := by kernel_rfl
theorem Try.sh119 : shp Try.prog 119 = some (false, 1) := by kernel_rfl
theorem Try.z119 : zeroOf Try.prog 119 = some (.slice none 0 0) := by kernel_rfl
theorem Try.by119 : bytesOf Try.prog 119 = some 24 := by kernel_rfl
theorem Try.sl119 : sliOf Try.prog 119 = some (84, false, 1) := by kernel_rfl
theorem Try.us119 : Try.prog.underlying 119 = some (.slice 84) := by kernel_rfl
theorem Try.src119 : srcTy Try.prog 119 = true := by kernel_rfl
theorem Try.sh120 : shp Try.prog 120 = some (false, 1) := by kernel_rfl
theorem Try.z120 : zeroOf Try.prog 120 = some (.slice none 0 0) := by kernel_rfl
theorem Try.by120 : bytesOf Try.prog 120 = some 24 := by kernel_rfl
theorem Try.sl120 : sliOf Try.prog 120 = some (128, true, 1) := by kernel_rfl
theorem Try.us120 : Try.prog.underlying 120 = some (.slice 128) := by kernel_rfl
theorem Try.src120 : srcTy Try.prog 120 = true := by kernel_rfl
theorem Try.sh121 : shp Try.prog 121 = some (true, 3) := by kernel_rfl
theorem Try.z121 : zeroOf Try.prog 121 = some (.agg #[.bool false, .slice none 0 0, .slice none 0 0]) := by kernel_rfl
theorem Try.by121 : bytesOf Try.prog 121 = some 56 := by kernel_rfl
theorem Try.f121_0 : fldOf Try.prog 121 0 = some (0, false, 1) := by kernel_rfl
theorem Try.f121_1 : fldOf Try.prog 121 1 = some (1, false, 1) := by kernel_rfl
theorem Try.f121_2 : fldOf Try.prog 121 2 = some (2, false, 1) := by kernel_rfl
theorem Try.pl121 : placesOf Try.prog 121 = some [(0, 1), (1, 1), (2, 1)] := by kernel_rfl
theorem Try.sh122 : shp Try.prog 122 = some (true, 3) := by kernel_rfl
theorem Try.z122 : zeroOf Try.prog 122 = some (.agg #[.bool false, .slice none 0 0, .slice none 0 0]) := by kernel_rfl
theorem Try.by122 : bytesOf Try.prog 122 = some 56 := by kernel_rfl
theorem Try.f122_0 : fldOf Try.prog 122 0 = some (0, false, 1) := by kernel_rfl
theorem Try.f122_1 : fldOf Try.prog 122 1 = some (1, false, 1) := by kernel_rfl
theorem Try.f122_2 : fldOf Try.prog 122 2 = some (2, false, 1) := by kernel_rfl
theorem Try.pl122 : placesOf Try.prog 122 = some [(0, 1), (1, 1), (2, 1)] := by kernel_rfl
theorem Try.sh123 : shp Try.prog 123 = some (true, 2) := by kernel_rfl
theorem Try.z123 : zeroOf Try.prog 123 = some (.agg #[.int .i64 0, .int .i64 0]) := by kernel_rfl
theorem Try.by123 : bytesOf Try.prog 123 = some 16 := by kernel_rfl
theorem Try.f123_0 : fldOf Try.prog 123 0 = some (0, false, 1) := by kernel_rfl
theorem Try.f123_1 : fldOf Try.prog 123 1 = some (1, false, 1) := by kernel_rfl
theorem Try.pl123 : placesOf Try.prog 123 = some [(0, 1), (1, 1)] := by kernel_rfl
theorem Try.sh124 : shp Try.prog 124 = some (true, 2) := by kernel_rfl
theorem Try.z124 : zeroOf Try.prog 124 = some (.agg #[.int .i64 0, .int .i64 0]) := by kernel_rfl
theorem Try.by124 : bytesOf Try.prog 124 = some 16 := by kernel_rfl
theorem Try.f124_0 : fldOf Try.prog 124 0 = some (0, false, 1) := by kernel_rfl
theorem Try.f124_1 : fldOf Try.prog 124 1 = some (1, false, 1) := by kernel_rfl
theorem Try.pl124 : placesOf Try.prog 124 = some [(0, 1), (1, 1)] := by kernel_rfl
theorem Try.sh125 : shp Try.prog 125 = some (false, 1) := by kernel_rfl
theorem Try.z125 : zeroOf Try.prog 125 = some (.map none) := by kernel_rfl
theorem Try.by125 : bytesOf Try.prog 125 = some 8 := by kernel_rfl
theorem Try.sh126 : shp Try.prog 126 = some (false, 1) := by kernel_rfl
theorem Try.z126 : zeroOf Try.prog 126 = some (.map none) := by kernel_rfl
theorem Try.by126 : bytesOf Try.prog 126 = some 8 := by kernel_rfl
theorem Try.sh127 : shp Try.prog 127 = some (true, 1) := by kernel_rfl
theorem Try.z127 : zeroOf Try.prog 127 = some (.agg #[.map none]) := by kernel_rfl
theorem Try.by127 : bytesOf Try.prog 127 = some 8 := by kernel_rfl
theorem Try.f127_0 : fldOf Try.prog 127 0 = some (0, false, 1) := by kernel_rfl
theorem Try.pl127 : placesOf Try.prog 127 = some [(0, 1)] := by kernel_rfl
theorem Try.sh128 : shp Try.prog 128 = some (true, 1) := by kernel_rfl
theorem Try.z128 : zeroOf Try.prog 128 = some (.agg #[.map none]) := by kernel_rfl
theorem Try.by128 : bytesOf Try.prog 128 = some 8 := by kernel_rfl
theorem Try.f128_0 : fldOf Try.prog 128 0 = some (0, false, 1) := by kernel_rfl
theorem Try.pl128 : placesOf Try.prog 128 = some [(0, 1)] := by kernel_rfl
theorem Try.sh146 : shp Try.prog 146 = some (false, 1) := by kernel_rfl
theorem Try.z146 : zeroOf Try.prog 146 = some (.pointer none) := by kernel_rfl
theorem Try.by146 : bytesOf Try.prog 146 = some 8 := by kernel_rfl
theorem Try.sh150 : shp Try.prog 150 = some (false, 1) := by kernel_rfl
theorem Try.z150 : zeroOf Try.prog 150 = some (.map none) := by kernel_rfl
theorem Try.by150 : bytesOf Try.prog 150 = some 8 := by kernel_rfl
theorem Try.sh157 : shp Try.prog 157 = some (true, 8) := by kernel_rfl
theorem Try.z157 : zeroOf Try.prog 157 = some (.agg #[.int .u8 0, .int .u8 0, .int .u8 0, .int .u8 0, .int .u8 0, .int .u8 0, .int .u8 0, .int .u8 0]) := by kernel_rfl
theorem Try.by157 : bytesOf Try.prog 157 = some 8 := by kernel_rfl
theorem Try.ar157 : arrOf Try.prog 157 = some (8, false, 1) := by kernel_rfl
theorem Try.sh164 : shp Try.prog 164 = some (true, 4) := by kernel_rfl
theorem Try.z164 : zeroOf Try.prog 164 = some (.agg #[.bool false, .slice none 0 0, .int .i64 0, .bool false]) := by kernel_rfl
theorem Try.by164 : bytesOf Try.prog 164 = some 48 := by kernel_rfl
theorem Try.f164_0 : fldOf Try.prog 164 0 = some (0, false, 1) := by kernel_rfl
theorem Try.f164_1 : fldOf Try.prog 164 1 = some (1, false, 1) := by kernel_rfl
theorem Try.f164_2 : fldOf Try.prog 164 2 = some (2, false, 1) := by kernel_rfl
theorem Try.f164_3 : fldOf Try.prog 164 3 = some (3, false, 1) := by kernel_rfl
theorem Try.pl164 : placesOf Try.prog 164 = some [(0, 1), (1, 1), (2, 1), (3, 1)] := by kernel_rfl
theorem Try.sh165 : shp Try.prog 165 = some (true, 4) := by kernel_rfl
theorem Try.z165 : zeroOf Try.prog 165 = some (.agg #[.bool false, .slice none 0 0, .int .i64 0, .bool false]) := by kernel_rfl
theorem Try.by165 : bytesOf Try.prog 165 = some 48 := by kernel_rfl
theorem Try.f165_0 : fldOf Try.prog 165 0 = some (0, false, 1) := by kernel_rfl
theorem Try.f165_1 : fldOf Try.prog 165 1 = some (1, false, 1) := by kernel_rfl
theorem Try.f165_2 : fldOf Try.prog 165 2 = some (2, false, 1) := by kernel_rfl
theorem Try.f165_3 : fldOf Try.prog 165 3 = some (3, false, 1) := by kernel_rfl
theorem Try.pl165 : placesOf Try.prog 165 = some [(0, 1), (1, 1), (2, 1), (3, 1)] := by kernel_rfl
theorem Try.sh175 : shp Try.prog 175 = some (true, 4) := by kernel_rfl
theorem Try.z175 : zeroOf Try.prog 175 = some (.agg #[.pointer none, .pointer none, .pointer none, .string ByteArray.empty]) := by kernel_rfl
theorem Try.by175 : bytesOf Try.prog 175 = some 40 := by kernel_rfl
theorem Try.f175_0 : fldOf Try.prog 175 0 = some (0, false, 1) := by kernel_rfl
theorem Try.f175_1 : fldOf Try.prog 175 1 = some (1, false, 1) := by kernel_rfl
theorem Try.f175_2 : fldOf Try.prog 175 2 = some (2, false, 1) := by kernel_rfl
theorem Try.f175_3 : fldOf Try.prog 175 3 = some (3, false, 1) := by kernel_rfl
theorem Try.pl175 : placesOf Try.prog 175 = some [(0, 1), (1, 1), (2, 1), (3, 1)] := by kernel_rfl
theorem Try.sh176 : shp Try.prog 176 = some (true, 4) := by kernel_rfl
theorem Try.z176 : zeroOf Try.prog 176 = some (.agg #[.pointer none, .pointer none, .pointer none, .string ByteArray.empty]) := by kernel_rfl
theorem Try.by176 : bytesOf Try.prog 176 = some 40 := by kernel_rfl
theorem Try.f176_0 : fldOf Try.prog 176 0 = some (0, false, 1) := by kernel_rfl
theorem Try.f176_1 : fldOf Try.prog 176 1 = some (1, false, 1) := by kernel_rfl
theorem Try.f176_2 : fldOf Try.prog 176 2 = some (2, false, 1) := by kernel_rfl
theorem Try.f176_3 : fldOf Try.prog 176 3 = some (3, false, 1) := by kernel_rfl
theorem Try.pl176 : placesOf Try.prog 176 = some [(0, 1), (1, 1), (2, 1), (3, 1)] := by kernel_rfl
theorem Try.sh177 : shp Try.prog 177 = some (true, 0) := by kernel_rfl
theorem Try.z177 : zeroOf Try.prog 177 = some (.agg #[]) := by kernel_rfl
theorem Try.by177 : bytesOf Try.prog 177 = some 0 := by kernel_rfl
theorem Try.ar177 : arrOf Try.prog 177 = some (0, false, 1) := by kernel_rfl
theorem Try.sh178 : shp Try.prog 178 = some (true, 0) := by kernel_rfl
theorem Try.z178 : zeroOf Try.prog 178 = some (.agg #[]) := by kernel_rfl
theorem Try.by178 : bytesOf Try.prog 178 = some 0 := by kernel_rfl
theorem Try.f178_0 : fldOf Try.prog 178 0 = some (0, true, 0) := by kernel_rfl
theorem Try.pl178 : placesOf Try.prog 178 = some [(0, 0)] := by kernel_rfl
theorem Try.sh179 : shp Try.prog 179 = some (true, 0) := by kernel_rfl
theorem Try.z179 : zeroOf Try.prog 179 = some (.agg #[]) := by kernel_rfl
theorem Try.by179 : bytesOf Try.prog 179 = some 0 := by kernel_rfl
theorem Try.f179_0 : fldOf Try.prog 179 0 = some (0, true, 0) := by kernel_rfl
theorem Try.pl179 : placesOf Try.prog 179 = some [(0, 0)] := by kernel_rfl
theorem Try.sh180 : shp Try.prog 180 = some (false, 1) := by kernel_rfl
theorem Try.z180 : zeroOf Try.prog 180 = some (.int .u32 0) := by kernel_rfl
theorem Try.by180 : bytesOf Try.prog 180 = some 4 := by kernel_rfl
theorem Try.ui180 : Try.prog.underlying 180 = some (.int .u32) := by kernel_rfl
theorem Try.sh181 : shp Try.prog 181 = some (false, 1) := by kernel_rfl
theorem Try.z181 : zeroOf Try.prog 181 = some (.int .u8 0) := by kernel_rfl
theorem Try.by181 : bytesOf Try.prog 181 = some 1 := by kernel_rfl
theorem Try.ui181 : Try.prog.underlying 181 = some (.int .u8) := by kernel_rfl
theorem Try.sh182 : shp Try.prog 182 = some (false, 1) := by kernel_rfl
theorem Try.z182 : zeroOf Try.prog 182 = some (.int .u8 0) := by kernel_rfl
theorem Try.by182 : bytesOf Try.prog 182 = some 1 := by kernel_rfl
theorem Try.ui182 : Try.prog.underlying 182 = some (.int .u8) := by kernel_rfl
theorem Try.sh184 : shp Try.prog 184 = some (false, 1) := by kernel_rfl
theorem Try.z184 : zeroOf Try.prog 184 = some (.pointer none) := by kernel_rfl
theorem Try.by184 : bytesOf Try.prog 184 = some 8 := by kernel_rfl
theorem Try.sh185 : shp Try.prog 185 = some (false, 1) := by kernel_rfl
theorem Try.z185 : zeroOf Try.prog 185 = some (.int .i32 0) := by kernel_rfl
theorem Try.by185 : bytesOf Try.prog 185 = some 4 := by kernel_rfl
theorem Try.ui185 : Try.prog.underlying 185 = some (.int .i32) := by kernel_rfl
theorem Try.sh186 : shp Try.prog 186 = some (false, 1) := by kernel_rfl
theorem Try.z186 : zeroOf Try.prog 186 = some (.int .i32 0) := by kernel_rfl
theorem Try.by186 : bytesOf Try.prog 186 = some 4 := by kernel_rfl
theorem Try.ui186 : Try.prog.underlying 186 = some (.int .i32) := by kernel_rfl
theorem Try.sh187 : shp Try.prog 187 = some (true, 11) := by kernel_rfl
theorem Try.z187 : zeroOf Try.prog 187 = some (.agg #[.int .u64 0, .int .u64 0, .int .u32 0, .int .u8 0, .int .u8 0, .int .u8 0, .int .u8 0, .nilFunc, .pointer none, .int .i32 0, .int .i32 0]) := by kernel_rfl
theorem Try.by187 : bytesOf Try.prog 187 = some 48 := by kernel_rfl
theorem Try.f187_0 : fldOf Try.prog 187 0 = some (0, false, 1) := by kernel_rfl
theorem Try.f187_1 : fldOf Try.prog 187 1 = some (1, false, 1) := by kernel_rfl
theorem Try.f187_2 : fldOf Try.prog 187 2 = some (2, false, 1) := by kernel_rfl
theorem Try.f187_3 : fldOf Try.prog 187 3 = some (3, false, 1) := by kernel_rfl
theorem Try.f187_4 : fldOf Try.prog 187 4 = some (4, false, 1) := by kernel_rfl
theorem Try.f187_5 : fldOf Try.prog 187 5 = some (5, false, 1) := by kernel_rfl
theorem Try.f187_6 : fldOf Try.prog 187 6 = some (6, false, 1) := by kernel_rfl
theorem Try.f187_7 : fldOf Try.prog 187 7 = some (7, false, 1) := by kernel_rfl
theorem Try.f187_8 : fldOf Try.prog 187 8 = some (8, false, 1) := by kernel_rfl
theorem Try.f187_9 : fldOf Try.prog 187 9 = some (9, false, 1) := by kernel_rfl
theorem Try.f187_10 : fldOf Try.prog 187 10 = some (10, false, 1) := by kernel_rfl
theorem Try.pl187 : placesOf Try.prog 187 = some [(0, 1), (1, 1), (2, 1), (3, 1), (4, 1), (5, 1), (6, 1), (7, 1), (8, 1), (9, 1), (10, 1)] := by kernel_rfl
theorem Try.sh188 : shp Try.prog 188 = some (true, 11) := by kernel_rfl
theorem Try.z188 : zeroOf Try.prog 188 = some (.agg #[.int .u64 0, .int .u64 0, .int .u32 0, .int .u8 0, .int .u8 0, .int .u8 0, .int .u8 0, .nilFunc, .pointer none, .int .i32 0, .int .i32 0]) := by kernel_rfl
theorem Try.by188 : bytesOf Try.prog 188 = some 48 := by kernel_rfl
theorem Try.f188_0 : fldOf Try.prog 188 0 = some (0, false, 1) := by kernel_rfl
theorem Try.f188_1 : fldOf Try.prog 188 1 = some (1, false, 1) := by kernel_rfl
theorem Try.f188_2 : fldOf Try.prog 188 2 = some (2, false, 1) := by kernel_rfl
theorem Try.f188_3 : fldOf Try.prog 188 3 = some (3, false, 1) := by kernel_rfl
theorem Try.f188_4 : fldOf Try.prog 188 4 = some (4, false, 1) := by kernel_rfl
theorem Try.f188_5 : fldOf Try.prog 188 5 = some (5, false, 1) := by kernel_rfl
theorem Try.f188_6 : fldOf Try.prog 188 6 = some (6, false, 1) := by kernel_rfl
theorem Try.f188_7 : fldOf Try.prog 188 7 = some (7, false, 1) := by kernel_rfl
theorem Try.f188_8 : fldOf Try.prog 188 8 = some (8, false, 1) := by kernel_rfl
theorem Try.f188_9 : fldOf Try.prog 188 9 = some (9, false, 1) := by kernel_rfl
theorem Try.f188_10 : fldOf Try.prog 188 10 = some (10, false, 1) := by kernel_rfl
theorem Try.pl188 : placesOf Try.prog 188 = some [(0, 1), (1, 1), (2, 1), (3, 1), (4, 1), (5, 1), (6, 1), (7, 1), (8, 1), (9, 1), (10, 1)] := by kernel_rfl
theorem Try.sh189 : shp Try.prog 189 = some (false, 1) := by kernel_rfl
theorem Try.z189 : zeroOf Try.prog 189 = some (.pointer none) := by kernel_rfl
theorem Try.by189 : bytesOf Try.prog 189 = some 8 := by kernel_rfl
theorem Try.ok6 : calleeOK Try.prog 6 = true := by kernel_rfl
theorem Try.ok7 : calleeOK Try.prog 7 = true := by kernel_rfl
theorem Try.ok8 : calleeOK Try.prog 8 = true := by kernel_rfl
theorem Try.ok9 : calleeOK Try.prog 9 = true := by kernel_rfl
theorem Try.ok10 : calleeOK Try.prog 10 = true := by kernel_rfl
theorem Try.ok11 : calleeOK Try.prog 11 = true := by kernel_rfl
theorem Try.ok12 : calleeOK Try.prog 12 = true := by kernel_rfl
theorem Try.ok13 : calleeOK Try.prog 13 = true := by kernel_rfl
theorem Try.ok14 : calleeOK Try.prog 14 = true := by kernel_rfl
theorem Try.ok15 : calleeOK Try.prog 15 = true := by kernel_rfl
theorem Try.ok16 : calleeOK Try.prog 16 = true := by kernel_rfl
theorem Try.ok17 : calleeOK Try.prog 17 = true := by kernel_rfl
theorem Try.ok18 : calleeOK Try.prog 18 = true := by kernel_rfl
theorem Try.ok19 : calleeOK Try.prog 19 = true := by kernel_rfl
theorem Try.ok20 : calleeOK Try.prog 20 = true := by kernel_rfl
theorem Try.ok21 : calleeOK Try.prog 21 = true := by kernel_rfl
theorem Try.ok22 : calleeOK Try.prog 22 = true := by kernel_rfl
theorem Try.ok23 : calleeOK Try.prog 23 = true := by kernel_rfl
theorem Try.ok24 : calleeOK Try.prog 24 = true := by kernel_rfl
theorem Try.ok25 : calleeOK Try.prog 25 = true := by kernel_rfl
theorem Try.ok26 : calleeOK Try.prog 26 = true := by kernel_rfl
theorem Try.ok27 : calleeOK Try.prog 27 = true := by kernel_rfl
theorem Try.ok28 : calleeOK Try.prog 28 = true := by kernel_rfl
theorem Try.ok29 : calleeOK Try.prog 29 = true := by kernel_rfl
theorem Try.ok30 : calleeOK Try.prog 30 = true := by kernel_rfl
theorem Try.ok31 : calleeOK Try.prog 31 = true := by kernel_rfl
theorem Try.ok32 : calleeOK Try.prog 32 = true := by kernel_rfl
theorem Try.ok33 : calleeOK Try.prog 33 = true := by kernel_rfl
theorem Try.ok34 : calleeOK Try.prog 34 = true := by kernel_rfl
theorem Try.ok35 : calleeOK Try.prog 35 = true := by kernel_rfl
theorem Try.ok36 : calleeOK Try.prog 36 = true := by kernel_rfl
theorem Try.ok37 : calleeOK Try.prog 37 = true := by kernel_rfl
theorem Try.ok38 : calleeOK Try.prog 38 = true := by kernel_rfl
theorem Try.ok39 : calleeOK Try.prog 39 = true := by kernel_rfl
theorem Try.ok40 : calleeOK Try.prog 40 = true := by kernel_rfl
theorem Try.ok41 : calleeOK Try.prog 41 = true := by kernel_rfl
theorem Try.ok42 : calleeOK Try.prog 42 = true := by kernel_rfl
theorem Try.ok43 : calleeOK Try.prog 43 = true := by kernel_rfl
theorem Try.ok44 : calleeOK Try.prog 44 = true := by kernel_rfl
theorem Try.ok45 : calleeOK Try.prog 45 = true := by kernel_rfl
theorem Try.ok46 : calleeOK Try.prog 46 = true := by kernel_rfl
theorem Try.ok47 : calleeOK Try.prog 47 = true := by kernel_rfl
theorem Try.ok48 : calleeOK Try.prog 48 = true := by kernel_rfl
theorem Try.ok49 : calleeOK Try.prog 49 = true := by kernel_rfl
theorem Try.ok50 : calleeOK Try.prog 50 = true := by kernel_rfl
theorem Try.ok51 : calleeOK Try.prog 51 = true := by kernel_rfl
theorem Try.ok52 : calleeOK Try.prog 52 = true := by kernel_rfl
theorem Try.ok53 : calleeOK Try.prog 53 = true := by kernel_rfl
theorem Try.ok54 : calleeOK Try.prog 54 = true := by kernel_rfl
theorem Try.ok55 : calleeOK Try.prog 55 = true := by kernel_rfl
theorem Try.ok56 : calleeOK Try.prog 56 = true := by kernel_rfl
theorem Try.ok57 : calleeOK Try.prog 57 = true := by kernel_rfl
theorem Try.ok58 : calleeOK Try.prog 58 = true := by kernel_rfl
theorem Try.ok59 : calleeOK Try.prog 59 = true := by kernel_rfl
theorem Try.ok60 : calleeOK Try.prog 60 = true := by kernel_rfl
theorem Try.ok61 : calleeOK Try.prog 61 = true := by kernel_rfl
theorem Try.ok62 : calleeOK Try.prog 62 = true := by kernel_rfl
theorem Try.ok63 : calleeOK Try.prog 63 = true := by kernel_rfl
theorem Try.ok64 : calleeOK Try.prog 64 = true := by kernel_rfl
theorem Try.ok65 : calleeOK Try.prog 65 = true := by kernel_rfl
theorem Try.ok66 : calleeOK Try.prog 66 = true := by kernel_rfl
theorem Try.ok67 : calleeOK Try.prog 67 = true := by kernel_rfl
theorem Try.ok69 : calleeOK Try.prog 69 = true := by kernel_rfl
theorem Try.ok70 : calleeOK Try.prog 70 = true := by kernel_rfl
theorem Try.ok71 : calleeOK Try.prog 71 = true := by kernel_rfl
theorem Try.ok72 : calleeOK Try.prog 72 = true := by kernel_rfl
theorem Try.ok73 : calleeOK Try.prog 73 = true := by kernel_rfl
theorem Try.ok74 : calleeOK Try.prog 74 = true := by kernel_rfl
theorem Try.ok75 : calleeOK Try.prog 75 = true := by kernel_rfl
theorem Try.ok76 : calleeOK Try.prog 76 = true := by kernel_rfl
theorem Try.ok77 : calleeOK Try.prog 77 = true := by kernel_rfl
end Go.Proofs
