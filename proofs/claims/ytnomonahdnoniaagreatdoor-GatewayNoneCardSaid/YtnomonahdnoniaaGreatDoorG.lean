/-
  The calls that works() makes at its top, each with what it finds and what it leaves (data alone, printed by a program of mine).
  Conditions: none beyond those that the statements bear.
-/
import Derived.Test.YtnomonahdnoniaaGreatDoorF
set_option maxRecDepth 100000
namespace Go.Bel

section
def c24 : Chk where
  f := 17
  args := [vs 23 0 1 1]
  pre := [(23, .cells ⟨[.string ⟨⟨bs [47, 97]⟩⟩, .string ⟨⟨bs [47, 117, 112]⟩⟩]⟩ 86 (0, 0))]
  n0 := 24
  res := .tuple ⟨[.agg ⟨[.int .i64 (.ofNat 1024), .int .u64 (.ofNat 5000), .int .i64 (.ofNat 4096), .int .i64 (.ofNat 16384), .int .i64 (.ofNat 64), .int .i64 (.ofNat 65536), .int .u64 (.ofNat 15000), .string ⟨⟨bs []⟩⟩, .int .i64 (.ofNat 4096), .int .i64 (.ofNat 16384), .int .i64 (.ofNat 64), .int .i64 (.ofNat 256), .int .i64 (.ofNat 16384), .int .i64 (.ofNat 16384), .int .u64 (.ofNat 1000), .int .u64 (.ofNat 60000), .int .u64 (.ofNat 1000), .int .u64 (.ofNat 45000), .int .i64 (.ofNat 1024), .int .i64 (.ofNat 1048576), .int .u64 (.ofNat 18446744073709551614), vs 193 0 1 2305843009213693953]⟩, .int .i64 (.ofNat 0)]⟩
  post := [(193, .cells ⟨[.string ⟨⟨bs [47, 97]⟩⟩, .string ⟨⟨bs [47, 117, 112]⟩⟩]⟩ 86 (0, 0)),
    (23, .cells ⟨[.string ⟨⟨bs [47, 97]⟩⟩, .string ⟨⟨bs [47, 117, 112]⟩⟩]⟩ 86 (0, 0))]
  n1 := 515

def c516 : Chk where
  f := 18
  args := [.agg ⟨[.int .i64 (.ofNat 1024), .int .u64 (.ofNat 5000), .int .i64 (.ofNat 4096), .int .i64 (.ofNat 16384), .int .i64 (.ofNat 64), .int .i64 (.ofNat 65536), .int .u64 (.ofNat 15000), .string ⟨⟨bs []⟩⟩, .int .i64 (.ofNat 4096), .int .i64 (.ofNat 16384), .int .i64 (.ofNat 64), .int .i64 (.ofNat 256), .int .i64 (.ofNat 16384), .int .i64 (.ofNat 16384), .int .u64 (.ofNat 1000), .int .u64 (.ofNat 60000), .int .u64 (.ofNat 1000), .int .u64 (.ofNat 45000), .int .i64 (.ofNat 1024), .int .i64 (.ofNat 1048576), .int .u64 (.ofNat 18446744073709551614), vs 193 0 1 2305843009213693953]⟩]
  pre := [(193, .cells ⟨[.string ⟨⟨bs [47, 97]⟩⟩, .string ⟨⟨bs [47, 117, 112]⟩⟩]⟩ 86 (0, 0))]
  n0 := 516
  res := .tuple ⟨[vp 843 0, .int .i64 (.ofNat 0)]⟩
  post := [(843, .cells ⟨[vp 855 0, .int .i64 (.ofNat 1024), .int .u64 (.ofNat 5000), .int .i64 (.ofNat 4096), .int .i64 (.ofNat 16384), .int .i64 (.ofNat 64), .int .i64 (.ofNat 65536), .int .u64 (.ofNat 15000), .string ⟨⟨bs []⟩⟩, .int .i64 (.ofNat 4096), .int .i64 (.ofNat 16384), .int .i64 (.ofNat 64), .int .i64 (.ofNat 256), .int .i64 (.ofNat 16384), .int .i64 (.ofNat 16384), .int .u64 (.ofNat 1000), .int .u64 (.ofNat 60000), .int .u64 (.ofNat 1000), .int .u64 (.ofNat 45000), .int .i64 (.ofNat 1024), .int .i64 (.ofNat 1048576), .int .u64 (.ofNat 18446744073709551614), vs 841 0 1 2305843009213693953, vs 1420 0 1 1152921504606846977, vs 1421 0 1 1152921504606846977, .map (some 842), .int .u64 (.ofNat 0), .int .u64 (.ofNat 0), .bool false, .bool false, .int .i64 (.ofNat 0), .int .i64 (.ofNat 0), .int .u64 (.ofNat 0), .int .u64 (.ofNat 0), .int .u64 (.ofNat 0), .int .u64 (.ofNat 0), .slice none 0 0]⟩ 52 (0, 0)),
    (855, .cells ⟨[vs 1397 0 1 1152921504606846977, .bool true]⟩ 173 (0, 0)),
    (1397, .cells ⟨[vs 1396 0 1 2305843009213693953]⟩ 169 (0, 0)),
    (1396, .cells ⟨[.int .i64 (.ofNat 1), .string ⟨⟨bs [97]⟩⟩]⟩ 311 (0, 0)),
    (841, .cells ⟨[.string ⟨⟨bs [47, 97]⟩⟩, .string ⟨⟨bs [47, 117, 112]⟩⟩]⟩ 86 (0, 0)),
    (1420, .cells ⟨[vp 1220 0]⟩ 107 (0, 0)),
    (1220, .cells ⟨[vp 1310 0, .string ⟨⟨bs [47, 117, 112]⟩⟩, .int .i64 (.ofNat 4096), .int .i64 (.ofNat 16384), .int .i64 (.ofNat 64), .int .i64 (.ofNat 256), .int .i64 (.ofNat 16384), .int .i64 (.ofNat 16384), .int .u64 (.ofNat 1000), .int .u64 (.ofNat 60000), .int .u64 (.ofNat 1000), .int .u64 (.ofNat 45000), .int .i64 (.ofNat 1), .int .u64 (.ofNat 0), vp 1282 0, vp 1294 0, vp 1325 0, .int .i64 (.ofNat 0), .bool false, .bool false, .bool false, .int .u64 (.ofNat 0), .int .u64 (.ofNat 0)]⟩ 161 (0, 0)),
    (1310, .cells ⟨[vp 1309 0, .int .i64 (.ofNat 16384), .int .i64 (.ofNat 16384), .string ⟨⟨bs []⟩⟩, .string ⟨⟨bs []⟩⟩, .slice none 0 0, .bool false, .bool false, .slice none 0 0]⟩ 274 (0, 0)),
    (1309, .cells ⟨[vp 1308 0, .int .i64 (.ofNat 16384), .slice none 0 0, .bool false, .bool false]⟩ 398 (0, 0)),
    (1308, .cells ⟨[.slice none 0 0, .bool true]⟩ 525 (0, 0)),
    (1282, .cells ⟨[.string ⟨⟨bs []⟩⟩, .slice none 0 0, .int .i64 (.ofNat 4096), .int .i64 (.ofNat 16384), .int .i64 (.ofNat 64), .slice none 0 0, .int .i64 (.ofNat 0), .bool false, .bool false, .int .i64 (.ofNat 0)]⟩ 280 (0, 0)),
    (1294, .cells ⟨[.int .i64 (.ofNat 256), .slice none 0 0, .bool false, .int .i64 (.ofNat 0), .int .i64 (.ofNat 0), .int .i64 (.ofNat 0), .slice none 0 0, .slice none 0 0, .slice none 0 0, .int .i64 (.ofNat 0)]⟩ 287 (0, 0)),
    (1325, .cells ⟨[.int .u64 (.ofNat 1000), .int .u64 (.ofNat 60000), .int .u64 (.ofNat 1000), .int .u64 (.ofNat 1000), .int .i64 (.ofNat 0), .bool true]⟩ 267 (0, 0)),
    (1421, .cells ⟨[vp 1332 0]⟩ 63 (0, 0)),
    (1332, .cells ⟨[vp 1331 0, .bool false, .bool false, .int .u64 (.ofNat 0), .int .u64 (.ofNat 0), .int .u64 (.ofNat 0), .int .u64 (.ofNat 0), .int .u64 (.ofNat 0), .int .u64 (.ofNat 0), .int .u64 (.ofNat 0)]⟩ 152 (0, 0)),
    (1331, .cells ⟨[vp 1328 0, .int .i64 (.ofNat 1024), .int .i64 (.ofNat 1048576), .int .u64 (.ofNat 18446744073709551614), .int .u64 (.ofNat 1), .map (some 1329), .map (some 1330), .int .i64 (.ofNat 0), .int .i64 (.ofNat 0), .string ⟨⟨bs []⟩⟩]⟩ 260 (0, 0)),
    (1328, .cells ⟨[.int .u64 (.ofNat 0), .int .u64 (.ofNat 0), .slice none 0 0, .int .i64 (.ofNat 1024)]⟩ 389 (0, 0)),
    (1329, .map ⟨[]⟩ 0),
    (1330, .map ⟨[]⟩ 0),
    (842, .map ⟨[]⟩ 0),
    (193, .cells ⟨[.string ⟨⟨bs [47, 97]⟩⟩, .string ⟨⟨bs [47, 117, 112]⟩⟩]⟩ 86 (0, 0))]
  n1 := 1422

def c1624 : Chk where
  f := 388
  args := [.slice none 0 0, .int .i64 (.ofNat 0), vs 1619 0 1 1]
  pre := [(1619, .cells ⟨[.int .i64 (.ofNat 1), .int .u64 (.ofNat 0), .int .u64 (.ofNat 0)]⟩ 343 (0, 0))]
  n0 := 1624
  res := vs 1624 0 1 3458764513820540929
  post := [(1624, .cells ⟨[.int .i64 (.ofNat 1), .int .u64 (.ofNat 0), .int .u64 (.ofNat 0)]⟩ 343 (0, 0)),
    (1619, .cells ⟨[.int .i64 (.ofNat 1), .int .u64 (.ofNat 0), .int .u64 (.ofNat 0)]⟩ 343 (0, 0))]
  n1 := 1625

def c1494 : Chk where
  f := 6
  args := [vp 843 0, .agg ⟨[.int .i64 (.ofNat 1), .int .u64 (.ofNat 0), .int .i64 (.ofNat 0), .int .u64 (.ofNat 0), .int .u64 (.ofNat 0), .slice none 0 0]⟩]
  pre := [(843, .cells ⟨[vp 855 0, .int .i64 (.ofNat 1024), .int .u64 (.ofNat 5000), .int .i64 (.ofNat 4096), .int .i64 (.ofNat 16384), .int .i64 (.ofNat 64), .int .i64 (.ofNat 65536), .int .u64 (.ofNat 15000), .string ⟨⟨bs []⟩⟩, .int .i64 (.ofNat 4096), .int .i64 (.ofNat 16384), .int .i64 (.ofNat 64), .int .i64 (.ofNat 256), .int .i64 (.ofNat 16384), .int .i64 (.ofNat 16384), .int .u64 (.ofNat 1000), .int .u64 (.ofNat 60000), .int .u64 (.ofNat 1000), .int .u64 (.ofNat 45000), .int .i64 (.ofNat 1024), .int .i64 (.ofNat 1048576), .int .u64 (.ofNat 18446744073709551614), vs 841 0 1 2305843009213693953, vs 1420 0 1 1152921504606846977, vs 1421 0 1 1152921504606846977, .map (some 842), .int .u64 (.ofNat 0), .int .u64 (.ofNat 0), .bool false, .bool false, .int .i64 (.ofNat 0), .int .i64 (.ofNat 0), .int .u64 (.ofNat 0), .int .u64 (.ofNat 0), .int .u64 (.ofNat 0), .int .u64 (.ofNat 0), .slice none 0 0]⟩ 52 (0, 0)),
    (855, .cells ⟨[vs 1397 0 1 1152921504606846977, .bool true]⟩ 173 (0, 0)),
    (1397, .cells ⟨[vs 1396 0 1 2305843009213693953]⟩ 169 (0, 0)),
    (1396, .cells ⟨[.int .i64 (.ofNat 1), .string ⟨⟨bs [97]⟩⟩]⟩ 311 (0, 0)),
    (841, .cells ⟨[.string ⟨⟨bs [47, 97]⟩⟩, .string ⟨⟨bs [47, 117, 112]⟩⟩]⟩ 86 (0, 0)),
    (1420, .cells ⟨[vp 1220 0]⟩ 107 (0, 0)),
    (1220, .cells ⟨[vp 1310 0, .string ⟨⟨bs [47, 117, 112]⟩⟩, .int .i64 (.ofNat 4096), .int .i64 (.ofNat 16384), .int .i64 (.ofNat 64), .int .i64 (.ofNat 256), .int .i64 (.ofNat 16384), .int .i64 (.ofNat 16384), .int .u64 (.ofNat 1000), .int .u64 (.ofNat 60000), .int .u64 (.ofNat 1000), .int .u64 (.ofNat 45000), .int .i64 (.ofNat 1), .int .u64 (.ofNat 0), vp 1282 0, vp 1294 0, vp 1325 0, .int .i64 (.ofNat 0), .bool false, .bool false, .bool false, .int .u64 (.ofNat 0), .int .u64 (.ofNat 0)]⟩ 161 (0, 0)),
    (1310, .cells ⟨[vp 1309 0, .int .i64 (.ofNat 16384), .int .i64 (.ofNat 16384), .string ⟨⟨bs []⟩⟩, .string ⟨⟨bs []⟩⟩, .slice none 0 0, .bool false, .bool false, .slice none 0 0]⟩ 274 (0, 0)),
    (1309, .cells ⟨[vp 1308 0, .int .i64 (.ofNat 16384), .slice none 0 0, .bool false, .bool false]⟩ 398 (0, 0)),
    (1308, .cells ⟨[.slice none 0 0, .bool true]⟩ 525 (0, 0)),
    (1282, .cells ⟨[.string ⟨⟨bs []⟩⟩, .slice none 0 0, .int .i64 (.ofNat 4096), .int .i64 (.ofNat 16384), .int .i64 (.ofNat 64), .slice none 0 0, .int .i64 (.ofNat 0), .bool false, .bool false, .int .i64 (.ofNat 0)]⟩ 280 (0, 0)),
    (1294, .cells ⟨[.int .i64 (.ofNat 256), .slice none 0 0, .bool false, .int .i64 (.ofNat 0), .int .i64 (.ofNat 0), .int .i64 (.ofNat 0), .slice none 0 0, .slice none 0 0, .slice none 0 0, .int .i64 (.ofNat 0)]⟩ 287 (0, 0)),
    (1325, .cells ⟨[.int .u64 (.ofNat 1000), .int .u64 (.ofNat 60000), .int .u64 (.ofNat 1000), .int .u64 (.ofNat 1000), .int .i64 (.ofNat 0), .bool true]⟩ 267 (0, 0)),
    (1421, .cells ⟨[vp 1332 0]⟩ 63 (0, 0)),
    (1332, .cells ⟨[vp 1331 0, .bool false, .bool false, .int .u64 (.ofNat 0), .int .u64 (.ofNat 0), .int .u64 (.ofNat 0), .int .u64 (.ofNat 0), .int .u64 (.ofNat 0), .int .u64 (.ofNat 0), .int .u64 (.ofNat 0)]⟩ 152 (0, 0)),
    (1331, .cells ⟨[vp 1328 0, .int .i64 (.ofNat 1024), .int .i64 (.ofNat 1048576), .int .u64 (.ofNat 18446744073709551614), .int .u64 (.ofNat 1), .map (some 1329), .map (some 1330), .int .i64 (.ofNat 0), .int .i64 (.ofNat 0), .string ⟨⟨bs []⟩⟩]⟩ 260 (0, 0)),
    (1328, .cells ⟨[.int .u64 (.ofNat 0), .int .u64 (.ofNat 0), .slice none 0 0, .int .i64 (.ofNat 1024)]⟩ 389 (0, 0)),
    (1329, .map ⟨[]⟩ 0),
    (1330, .map ⟨[]⟩ 0),
    (842, .map ⟨[]⟩ 0)]
  n0 := 1494
  res := .tuple ⟨[vs 1789 0 1 4611686018427387905, .int .i64 (.ofNat 0)]⟩
  post := [(1789, .cells ⟨[.int .i64 (.ofNat 4), .int .u64 (.ofNat 0), .int .i64 (.ofNat 0), .slice none 0 0]⟩ 91 (0, 0)),
    (843, .cells ⟨[vp 855 0, .int .i64 (.ofNat 1024), .int .u64 (.ofNat 5000), .int .i64 (.ofNat 4096), .int .i64 (.ofNat 16384), .int .i64 (.ofNat 64), .int .i64 (.ofNat 65536), .int .u64 (.ofNat 15000), .string ⟨⟨bs []⟩⟩, .int .i64 (.ofNat 4096), .int .i64 (.ofNat 16384), .int .i64 (.ofNat 64), .int .i64 (.ofNat 256), .int .i64 (.ofNat 16384), .int .i64 (.ofNat 16384), .int .u64 (.ofNat 1000), .int .u64 (.ofNat 60000), .int .u64 (.ofNat 1000), .int .u64 (.ofNat 45000), .int .i64 (.ofNat 1024), .int .i64 (.ofNat 1048576), .int .u64 (.ofNat 18446744073709551614), vs 841 0 1 2305843009213693953, vs 1420 0 1 1152921504606846977, vs 1421 0 1 1152921504606846977, .map (some 842), .int .u64 (.ofNat 0), .int .u64 (.ofNat 0), .bool false, .bool false, .int .i64 (.ofNat 0), .int .i64 (.ofNat 0), .int .u64 (.ofNat 0), .int .u64 (.ofNat 0), .int .u64 (.ofNat 0), .int .u64 (.ofNat 0), .slice none 0 0]⟩ 52 (0, 0)),
    (855, .cells ⟨[vs 1397 0 1 1152921504606846977, .bool true]⟩ 173 (0, 0)),
    (1397, .cells ⟨[vs 1396 0 1 2305843009213693953]⟩ 169 (0, 0)),
    (1396, .cells ⟨[.int .i64 (.ofNat 1), .string ⟨⟨bs [97]⟩⟩]⟩ 311 (0, 0)),
    (841, .cells ⟨[.string ⟨⟨bs [47, 97]⟩⟩, .string ⟨⟨bs [47, 117, 112]⟩⟩]⟩ 86 (0, 0)),
    (1420, .cells ⟨[vp 1220 0]⟩ 107 (0, 0)),
    (1220, .cells ⟨[vp 1310 0, .string ⟨⟨bs [47, 117, 112]⟩⟩, .int .i64 (.ofNat 4096), .int .i64 (.ofNat 16384), .int .i64 (.ofNat 64), .int .i64 (.ofNat 256), .int .i64 (.ofNat 16384), .int .i64 (.ofNat 16384), .int .u64 (.ofNat 1000), .int .u64 (.ofNat 60000), .int .u64 (.ofNat 1000), .int .u64 (.ofNat 45000), .int .i64 (.ofNat 2), .int .u64 (.ofNat 0), vp 1282 0, vp 1294 0, vp 1325 0, .int .i64 (.ofNat 0), .bool false, .bool false, .bool false, .int .u64 (.ofNat 0), .int .u64 (.ofNat 0)]⟩ 161 (0, 0)),
    (1310, .cells ⟨[vp 1309 0, .int .i64 (.ofNat 16384), .int .i64 (.ofNat 16384), .string ⟨⟨bs []⟩⟩, .string ⟨⟨bs []⟩⟩, .slice none 0 0, .bool false, .bool false, .slice none 0 0]⟩ 274 (0, 0)),
    (1309, .cells ⟨[vp 1308 0, .int .i64 (.ofNat 16384), .slice none 0 0, .bool false, .bool false]⟩ 398 (0, 0)),
    (1308, .cells ⟨[.slice none 0 0, .bool true]⟩ 525 (0, 0)),
    (1282, .cells ⟨[.string ⟨⟨bs []⟩⟩, .slice none 0 0, .int .i64 (.ofNat 4096), .int .i64 (.ofNat 16384), .int .i64 (.ofNat 64), .slice none 0 0, .int .i64 (.ofNat 0), .bool false, .bool false, .int .i64 (.ofNat 0)]⟩ 280 (0, 0)),
    (1294, .cells ⟨[.int .i64 (.ofNat 256), .slice none 0 0, .bool false, .int .i64 (.ofNat 0), .int .i64 (.ofNat 0), .int .i64 (.ofNat 0), .slice none 0 0, .slice none 0 0, .slice none 0 0, .int .i64 (.ofNat 0)]⟩ 287 (0, 0)),
    (1325, .cells ⟨[.int .u64 (.ofNat 1000), .int .u64 (.ofNat 60000), .int .u64 (.ofNat 1000), .int .u64 (.ofNat 1000), .int .i64 (.ofNat 0), .bool true]⟩ 267 (0, 0)),
    (1421, .cells ⟨[vp 1332 0]⟩ 63 (0, 0)),
    (1332, .cells ⟨[vp 1331 0, .bool false, .bool false, .int .u64 (.ofNat 0), .int .u64 (.ofNat 0), .int .u64 (.ofNat 0), .int .u64 (.ofNat 0), .int .u64 (.ofNat 0), .int .u64 (.ofNat 0), .int .u64 (.ofNat 0)]⟩ 152 (0, 0)),
    (1331, .cells ⟨[vp 1328 0, .int .i64 (.ofNat 1024), .int .i64 (.ofNat 1048576), .int .u64 (.ofNat 18446744073709551614), .int .u64 (.ofNat 1), .map (some 1329), .map (some 1330), .int .i64 (.ofNat 0), .int .i64 (.ofNat 0), .string ⟨⟨bs []⟩⟩]⟩ 260 (0, 0)),
    (1328, .cells ⟨[.int .u64 (.ofNat 0), .int .u64 (.ofNat 0), .slice none 0 0, .int .i64 (.ofNat 1024)]⟩ 389 (0, 0)),
    (1329, .map ⟨[]⟩ 0),
    (1330, .map ⟨[]⟩ 0),
    (842, .map ⟨[]⟩ 0)]
  n1 := 1795

def c1847 : Chk where
  f := 6
  args := [vp 843 0, .agg ⟨[.int .i64 (.ofNat 6), .int .u64 (.ofNat 0), .int .i64 (.ofNat 0), .int .u64 (.ofNat 0), .int .u64 (.ofNat 0), .slice none 0 0]⟩]
  pre := [(843, .cells ⟨[vp 855 0, .int .i64 (.ofNat 1024), .int .u64 (.ofNat 5000), .int .i64 (.ofNat 4096), .int .i64 (.ofNat 16384), .int .i64 (.ofNat 64), .int .i64 (.ofNat 65536), .int .u64 (.ofNat 15000), .string ⟨⟨bs []⟩⟩, .int .i64 (.ofNat 4096), .int .i64 (.ofNat 16384), .int .i64 (.ofNat 64), .int .i64 (.ofNat 256), .int .i64 (.ofNat 16384), .int .i64 (.ofNat 16384), .int .u64 (.ofNat 1000), .int .u64 (.ofNat 60000), .int .u64 (.ofNat 1000), .int .u64 (.ofNat 45000), .int .i64 (.ofNat 1024), .int .i64 (.ofNat 1048576), .int .u64 (.ofNat 18446744073709551614), vs 841 0 1 2305843009213693953, vs 1420 0 1 1152921504606846977, vs 1421 0 1 1152921504606846977, .map (some 842), .int .u64 (.ofNat 0), .int .u64 (.ofNat 0), .bool false, .bool false, .int .i64 (.ofNat 0), .int .i64 (.ofNat 0), .int .u64 (.ofNat 0), .int .u64 (.ofNat 0), .int .u64 (.ofNat 0), .int .u64 (.ofNat 0), .slice none 0 0]⟩ 52 (0, 0)),
    (855, .cells ⟨[vs 1397 0 1 1152921504606846977, .bool true]⟩ 173 (0, 0)),
    (1397, .cells ⟨[vs 1396 0 1 2305843009213693953]⟩ 169 (0, 0)),
    (1396, .cells ⟨[.int .i64 (.ofNat 1), .string ⟨⟨bs [97]⟩⟩]⟩ 311 (0, 0)),
    (841, .cells ⟨[.string ⟨⟨bs [47, 97]⟩⟩, .string ⟨⟨bs [47, 117, 112]⟩⟩]⟩ 86 (0, 0)),
    (1420, .cells ⟨[vp 1220 0]⟩ 107 (0, 0)),
    (1220, .cells ⟨[vp 1310 0, .string ⟨⟨bs [47, 117, 112]⟩⟩, .int .i64 (.ofNat 4096), .int .i64 (.ofNat 16384), .int .i64 (.ofNat 64), .int .i64 (.ofNat 256), .int .i64 (.ofNat 16384), .int .i64 (.ofNat 16384), .int .u64 (.ofNat 1000), .int .u64 (.ofNat 60000), .int .u64 (.ofNat 1000), .int .u64 (.ofNat 45000), .int .i64 (.ofNat 2), .int .u64 (.ofNat 0), vp 1282 0, vp 1294 0, vp 1325 0, .int .i64 (.ofNat 0), .bool false, .bool false, .bool false, .int .u64 (.ofNat 0), .int .u64 (.ofNat 0)]⟩ 161 (0, 0)),
    (1310, .cells ⟨[vp 1309 0, .int .i64 (.ofNat 16384), .int .i64 (.ofNat 16384), .string ⟨⟨bs []⟩⟩, .string ⟨⟨bs []⟩⟩, .slice none 0 0, .bool false, .bool false, .slice none 0 0]⟩ 274 (0, 0)),
    (1309, .cells ⟨[vp 1308 0, .int .i64 (.ofNat 16384), .slice none 0 0, .bool false, .bool false]⟩ 398 (0, 0)),
    (1308, .cells ⟨[.slice none 0 0, .bool true]⟩ 525 (0, 0)),
    (1282, .cells ⟨[.string ⟨⟨bs []⟩⟩, .slice none 0 0, .int .i64 (.ofNat 4096), .int .i64 (.ofNat 16384), .int .i64 (.ofNat 64), .slice none 0 0, .int .i64 (.ofNat 0), .bool false, .bool false, .int .i64 (.ofNat 0)]⟩ 280 (0, 0)),
    (1294, .cells ⟨[.int .i64 (.ofNat 256), .slice none 0 0, .bool false, .int .i64 (.ofNat 0), .int .i64 (.ofNat 0), .int .i64 (.ofNat 0), .slice none 0 0, .slice none 0 0, .slice none 0 0, .int .i64 (.ofNat 0)]⟩ 287 (0, 0)),
    (1325, .cells ⟨[.int .u64 (.ofNat 1000), .int .u64 (.ofNat 60000), .int .u64 (.ofNat 1000), .int .u64 (.ofNat 1000), .int .i64 (.ofNat 0), .bool true]⟩ 267 (0, 0)),
    (1421, .cells ⟨[vp 1332 0]⟩ 63 (0, 0)),
    (1332, .cells ⟨[vp 1331 0, .bool false, .bool false, .int .u64 (.ofNat 0), .int .u64 (.ofNat 0), .int .u64 (.ofNat 0), .int .u64 (.ofNat 0), .int .u64 (.ofNat 0), .int .u64 (.ofNat 0), .int .u64 (.ofNat 0)]⟩ 152 (0, 0)),
    (1331, .cells ⟨[vp 1328 0, .int .i64 (.ofNat 1024), .int .i64 (.ofNat 1048576), .int .u64 (.ofNat 18446744073709551614), .int .u64 (.ofNat 1), .map (some 1329), .map (some 1330), .int .i64 (.ofNat 0), .int .i64 (.ofNat 0), .string ⟨⟨bs []⟩⟩]⟩ 260 (0, 0)),
    (1328, .cells ⟨[.int .u64 (.ofNat 0), .int .u64 (.ofNat 0), .slice none 0 0, .int .i64 (.ofNat 1024)]⟩ 389 (0, 0)),
    (1329, .map ⟨[]⟩ 0),
    (1330, .map ⟨[]⟩ 0),
    (842, .map ⟨[]⟩ 0)]
  n0 := 1847
  res := .tuple ⟨[vs 2027 0 1 4611686018427387905, .int .i64 (.ofNat 0)]⟩
  post := [(2027, .cells ⟨[.int .i64 (.ofNat 5), .int .u64 (.ofNat 0), .int .i64 (.ofNat 0), vs 2025 0 63 1152921504606847039]⟩ 91 (0, 0)),
    (2025, .cells ⟨[.int .u8 (.ofNat 71), .int .u8 (.ofNat 69), .int .u8 (.ofNat 84), .int .u8 (.ofNat 32), .int .u8 (.ofNat 47), .int .u8 (.ofNat 117), .int .u8 (.ofNat 112), .int .u8 (.ofNat 32), .int .u8 (.ofNat 72), .int .u8 (.ofNat 84), .int .u8 (.ofNat 84), .int .u8 (.ofNat 80), .int .u8 (.ofNat 47), .int .u8 (.ofNat 49), .int .u8 (.ofNat 46), .int .u8 (.ofNat 49), .int .u8 (.ofNat 13), .int .u8 (.ofNat 10), .int .u8 (.ofNat 104), .int .u8 (.ofNat 111), .int .u8 (.ofNat 115), .int .u8 (.ofNat 116), .int .u8 (.ofNat 58), .int .u8 (.ofNat 32), .int .u8 (.ofNat 117), .int .u8 (.ofNat 112), .int .u8 (.ofNat 115), .int .u8 (.ofNat 116), .int .u8 (.ofNat 114), .int .u8 (.ofNat 101), .int .u8 (.ofNat 97), .int .u8 (.ofNat 109), .int .u8 (.ofNat 13), .int .u8 (.ofNat 10), .int .u8 (.ofNat 97), .int .u8 (.ofNat 99), .int .u8 (.ofNat 99), .int .u8 (.ofNat 101), .int .u8 (.ofNat 112), .int .u8 (.ofNat 116), .int .u8 (.ofNat 58), .int .u8 (.ofNat 32), .int .u8 (.ofNat 116), .int .u8 (.ofNat 101), .int .u8 (.ofNat 120), .int .u8 (.ofNat 116), .int .u8 (.ofNat 47), .int .u8 (.ofNat 101), .int .u8 (.ofNat 118), .int .u8 (.ofNat 101), .int .u8 (.ofNat 110), .int .u8 (.ofNat 116), .int .u8 (.ofNat 45), .int .u8 (.ofNat 115), .int .u8 (.ofNat 116), .int .u8 (.ofNat 114), .int .u8 (.ofNat 101), .int .u8 (.ofNat 97), .int .u8 (.ofNat 109), .int .u8 (.ofNat 13), .int .u8 (.ofNat 10), .int .u8 (.ofNat 13), .int .u8 (.ofNat 10)]⟩ 5 (0, 0)),
    (843, .cells ⟨[vp 855 0, .int .i64 (.ofNat 1024), .int .u64 (.ofNat 5000), .int .i64 (.ofNat 4096), .int .i64 (.ofNat 16384), .int .i64 (.ofNat 64), .int .i64 (.ofNat 65536), .int .u64 (.ofNat 15000), .string ⟨⟨bs []⟩⟩, .int .i64 (.ofNat 4096), .int .i64 (.ofNat 16384), .int .i64 (.ofNat 64), .int .i64 (.ofNat 256), .int .i64 (.ofNat 16384), .int .i64 (.ofNat 16384), .int .u64 (.ofNat 1000), .int .u64 (.ofNat 60000), .int .u64 (.ofNat 1000), .int .u64 (.ofNat 45000), .int .i64 (.ofNat 1024), .int .i64 (.ofNat 1048576), .int .u64 (.ofNat 18446744073709551614), vs 841 0 1 2305843009213693953, vs 1420 0 1 1152921504606846977, vs 1421 0 1 1152921504606846977, .map (some 842), .int .u64 (.ofNat 0), .int .u64 (.ofNat 0), .bool false, .bool false, .int .i64 (.ofNat 0), .int .i64 (.ofNat 0), .int .u64 (.ofNat 0), .int .u64 (.ofNat 0), .int .u64 (.ofNat 0), .int .u64 (.ofNat 0), .slice none 0 0]⟩ 52 (0, 0)),
    (855, .cells ⟨[vs 1397 0 1 1152921504606846977, .bool true]⟩ 173 (0, 0)),
    (1397, .cells ⟨[vs 1396 0 1 2305843009213693953]⟩ 169 (0, 0)),
    (1396, .cells ⟨[.int .i64 (.ofNat 1), .string ⟨⟨bs [97]⟩⟩]⟩ 311 (0, 0)),
    (841, .cells ⟨[.string ⟨⟨bs [47, 97]⟩⟩, .string ⟨⟨bs [47, 117, 112]⟩⟩]⟩ 86 (0, 0)),
    (1420, .cells ⟨[vp 1220 0]⟩ 107 (0, 0)),
    (1220, .cells ⟨[vp 1310 0, .string ⟨⟨bs [47, 117, 112]⟩⟩, .int .i64 (.ofNat 4096), .int .i64 (.ofNat 16384), .int .i64 (.ofNat 64), .int .i64 (.ofNat 256), .int .i64 (.ofNat 16384), .int .i64 (.ofNat 16384), .int .u64 (.ofNat 1000), .int .u64 (.ofNat 60000), .int .u64 (.ofNat 1000), .int .u64 (.ofNat 45000), .int .i64 (.ofNat 3), .int .u64 (.ofNat 45000), vp 1282 0, vp 1294 0, vp 1325 0, .int .i64 (.ofNat 0), .bool false, .bool false, .bool false, .int .u64 (.ofNat 0), .int .u64 (.ofNat 0)]⟩ 161 (0, 0)),
    (1310, .cells ⟨[vp 1309 0, .int .i64 (.ofNat 16384), .int .i64 (.ofNat 16384), .string ⟨⟨bs []⟩⟩, .string ⟨⟨bs []⟩⟩, .slice none 0 0, .bool false, .bool false, .slice none 0 0]⟩ 274 (0, 0)),
    (1309, .cells ⟨[vp 1308 0, .int .i64 (.ofNat 16384), .slice none 0 0, .bool false, .bool false]⟩ 398 (0, 0)),
    (1308, .cells ⟨[.slice none 0 0, .bool true]⟩ 525 (0, 0)),
    (1282, .cells ⟨[.string ⟨⟨bs []⟩⟩, .slice none 0 0, .int .i64 (.ofNat 4096), .int .i64 (.ofNat 16384), .int .i64 (.ofNat 64), .slice none 0 0, .int .i64 (.ofNat 0), .bool false, .bool false, .int .i64 (.ofNat 0)]⟩ 280 (0, 0)),
    (1294, .cells ⟨[.int .i64 (.ofNat 256), .slice none 0 0, .bool false, .int .i64 (.ofNat 0), .int .i64 (.ofNat 0), .int .i64 (.ofNat 0), .slice none 0 0, .slice none 0 0, .slice none 0 0, .int .i64 (.ofNat 0)]⟩ 287 (0, 0)),
    (1325, .cells ⟨[.int .u64 (.ofNat 1000), .int .u64 (.ofNat 60000), .int .u64 (.ofNat 1000), .int .u64 (.ofNat 1000), .int .i64 (.ofNat 0), .bool true]⟩ 267 (0, 0)),
    (1421, .cells ⟨[vp 1332 0]⟩ 63 (0, 0)),
    (1332, .cells ⟨[vp 1331 0, .bool false, .bool false, .int .u64 (.ofNat 0), .int .u64 (.ofNat 0), .int .u64 (.ofNat 0), .int .u64 (.ofNat 0), .int .u64 (.ofNat 0), .int .u64 (.ofNat 0), .int .u64 (.ofNat 0)]⟩ 152 (0, 0)),
    (1331, .cells ⟨[vp 1328 0, .int .i64 (.ofNat 1024), .int .i64 (.ofNat 1048576), .int .u64 (.ofNat 18446744073709551614), .int .u64 (.ofNat 1), .map (some 1329), .map (some 1330), .int .i64 (.ofNat 0), .int .i64 (.ofNat 0), .string ⟨⟨bs []⟩⟩]⟩ 260 (0, 0)),
    (1328, .cells ⟨[.int .u64 (.ofNat 0), .int .u64 (.ofNat 0), .slice none 0 0, .int .i64 (.ofNat 1024)]⟩ 389 (0, 0)),
    (1329, .map ⟨[]⟩ 0),
    (1330, .map ⟨[]⟩ 0),
    (842, .map ⟨[]⟩ 0)]
  n1 := 2028

def c2080 : Chk where
  f := 6
  args := [vp 843 0, .agg ⟨[.int .i64 (.ofNat 2), .int .u64 (.ofNat 0), .int .i64 (.ofNat 0), .int .u64 (.ofNat 0), .int .u64 (.ofNat 0), .slice none 0 0]⟩]
  pre := [(843, .cells ⟨[vp 855 0, .int .i64 (.ofNat 1024), .int .u64 (.ofNat 5000), .int .i64 (.ofNat 4096), .int .i64 (.ofNat 16384), .int .i64 (.ofNat 64), .int .i64 (.ofNat 65536), .int .u64 (.ofNat 15000), .string ⟨⟨bs []⟩⟩, .int .i64 (.ofNat 4096), .int .i64 (.ofNat 16384), .int .i64 (.ofNat 64), .int .i64 (.ofNat 256), .int .i64 (.ofNat 16384), .int .i64 (.ofNat 16384), .int .u64 (.ofNat 1000), .int .u64 (.ofNat 60000), .int .u64 (.ofNat 1000), .int .u64 (.ofNat 45000), .int .i64 (.ofNat 1024), .int .i64 (.ofNat 1048576), .int .u64 (.ofNat 18446744073709551614), vs 841 0 1 2305843009213693953, vs 1420 0 1 1152921504606846977, vs 1421 0 1 1152921504606846977, .map (some 842), .int .u64 (.ofNat 0), .int .u64 (.ofNat 0), .bool false, .bool false, .int .i64 (.ofNat 0), .int .i64 (.ofNat 0), .int .u64 (.ofNat 0), .int .u64 (.ofNat 0), .int .u64 (.ofNat 0), .int .u64 (.ofNat 0), .slice none 0 0]⟩ 52 (0, 0)),
    (855, .cells ⟨[vs 1397 0 1 1152921504606846977, .bool true]⟩ 173 (0, 0)),
    (1397, .cells ⟨[vs 1396 0 1 2305843009213693953]⟩ 169 (0, 0)),
    (1396, .cells ⟨[.int .i64 (.ofNat 1), .string ⟨⟨bs [97]⟩⟩]⟩ 311 (0, 0)),
    (841, .cells ⟨[.string ⟨⟨bs [47, 97]⟩⟩, .string ⟨⟨bs [47, 117, 112]⟩⟩]⟩ 86 (0, 0)),
    (1420, .cells ⟨[vp 1220 0]⟩ 107 (0, 0)),
    (1220, .cells ⟨[vp 1310 0, .string ⟨⟨bs [47, 117, 112]⟩⟩, .int .i64 (.ofNat 4096), .int .i64 (.ofNat 16384), .int .i64 (.ofNat 64), .int .i64 (.ofNat 256), .int .i64 (.ofNat 16384), .int .i64 (.ofNat 16384), .int .u64 (.ofNat 1000), .int .u64 (.ofNat 60000), .int .u64 (.ofNat 1000), .int .u64 (.ofNat 45000), .int .i64 (.ofNat 3), .int .u64 (.ofNat 45000), vp 1282 0, vp 1294 0, vp 1325 0, .int .i64 (.ofNat 0), .bool false, .bool false, .bool false, .int .u64 (.ofNat 0), .int .u64 (.ofNat 0)]⟩ 161 (0, 0)),
    (1310, .cells ⟨[vp 1309 0, .int .i64 (.ofNat 16384), .int .i64 (.ofNat 16384), .string ⟨⟨bs []⟩⟩, .string ⟨⟨bs []⟩⟩, .slice none 0 0, .bool false, .bool false, .slice none 0 0]⟩ 274 (0, 0)),
    (1309, .cells ⟨[vp 1308 0, .int .i64 (.ofNat 16384), .slice none 0 0, .bool false, .bool false]⟩ 398 (0, 0)),
    (1308, .cells ⟨[.slice none 0 0, .bool true]⟩ 525 (0, 0)),
    (1282, .cells ⟨[.string ⟨⟨bs []⟩⟩, .slice none 0 0, .int .i64 (.ofNat 4096), .int .i64 (.ofNat 16384), .int .i64 (.ofNat 64), .slice none 0 0, .int .i64 (.ofNat 0), .bool false, .bool false, .int .i64 (.ofNat 0)]⟩ 280 (0, 0)),
    (1294, .cells ⟨[.int .i64 (.ofNat 256), .slice none 0 0, .bool false, .int .i64 (.ofNat 0), .int .i64 (.ofNat 0), .int .i64 (.ofNat 0), .slice none 0 0, .slice none 0 0, .slice none 0 0, .int .i64 (.ofNat 0)]⟩ 287 (0, 0)),
    (1325, .cells ⟨[.int .u64 (.ofNat 1000), .int .u64 (.ofNat 60000), .int .u64 (.ofNat 1000), .int .u64 (.ofNat 1000), .int .i64 (.ofNat 0), .bool true]⟩ 267 (0, 0)),
    (1421, .cells ⟨[vp 1332 0]⟩ 63 (0, 0)),
    (1332, .cells ⟨[vp 1331 0, .bool false, .bool false, .int .u64 (.ofNat 0), .int .u64 (.ofNat 0), .int .u64 (.ofNat 0), .int .u64 (.ofNat 0), .int .u64 (.ofNat 0), .int .u64 (.ofNat 0), .int .u64 (.ofNat 0)]⟩ 152 (0, 0)),
    (1331, .cells ⟨[vp 1328 0, .int .i64 (.ofNat 1024), .int .i64 (.ofNat 1048576), .int .u64 (.ofNat 18446744073709551614), .int .u64 (.ofNat 1), .map (some 1329), .map (some 1330), .int .i64 (.ofNat 0), .int .i64 (.ofNat 0), .string ⟨⟨bs []⟩⟩]⟩ 260 (0, 0)),
    (1328, .cells ⟨[.int .u64 (.ofNat 0), .int .u64 (.ofNat 0), .slice none 0 0, .int .i64 (.ofNat 1024)]⟩ 389 (0, 0)),
    (1329, .map ⟨[]⟩ 0),
    (1330, .map ⟨[]⟩ 0),
    (842, .map ⟨[]⟩ 0)]
  n0 := 2080
  res := .tuple ⟨[vs 2095 0 1 4611686018427387905, .int .i64 (.ofNat 0)]⟩
  post := [(2095, .cells ⟨[.int .i64 (.ofNat 1), .int .u64 (.ofNat 1), .int .i64 (.ofNat 0), .slice none 0 0]⟩ 91 (0, 0)),
    (843, .cells ⟨[vp 855 0, .int .i64 (.ofNat 1024), .int .u64 (.ofNat 5000), .int .i64 (.ofNat 4096), .int .i64 (.ofNat 16384), .int .i64 (.ofNat 64), .int .i64 (.ofNat 65536), .int .u64 (.ofNat 15000), .string ⟨⟨bs []⟩⟩, .int .i64 (.ofNat 4096), .int .i64 (.ofNat 16384), .int .i64 (.ofNat 64), .int .i64 (.ofNat 256), .int .i64 (.ofNat 16384), .int .i64 (.ofNat 16384), .int .u64 (.ofNat 1000), .int .u64 (.ofNat 60000), .int .u64 (.ofNat 1000), .int .u64 (.ofNat 45000), .int .i64 (.ofNat 1024), .int .i64 (.ofNat 1048576), .int .u64 (.ofNat 18446744073709551614), vs 841 0 1 2305843009213693953, vs 1420 0 1 1152921504606846977, vs 1421 0 1 1152921504606846977, .map (some 842), .int .u64 (.ofNat 0), .int .u64 (.ofNat 0), .bool false, .bool false, .int .i64 (.ofNat 0), .int .i64 (.ofNat 0), .int .u64 (.ofNat 1), .int .u64 (.ofNat 0), .int .u64 (.ofNat 0), .int .u64 (.ofNat 0), .slice none 0 0]⟩ 52 (0, 0)),
    (855, .cells ⟨[vs 1397 0 1 1152921504606846977, .bool true]⟩ 173 (0, 0)),
    (1397, .cells ⟨[vs 1396 0 1 2305843009213693953]⟩ 169 (0, 0)),
    (1396, .cells ⟨[.int .i64 (.ofNat 1), .string ⟨⟨bs [97]⟩⟩]⟩ 311 (0, 0)),
    (841, .cells ⟨[.string ⟨⟨bs [47, 97]⟩⟩, .string ⟨⟨bs [47, 117, 112]⟩⟩]⟩ 86 (0, 0)),
    (1420, .cells ⟨[vp 1220 0]⟩ 107 (0, 0)),
    (1220, .cells ⟨[vp 1310 0, .string ⟨⟨bs [47, 117, 112]⟩⟩, .int .i64 (.ofNat 4096), .int .i64 (.ofNat 16384), .int .i64 (.ofNat 64), .int .i64 (.ofNat 256), .int .i64 (.ofNat 16384), .int .i64 (.ofNat 16384), .int .u64 (.ofNat 1000), .int .u64 (.ofNat 60000), .int .u64 (.ofNat 1000), .int .u64 (.ofNat 45000), .int .i64 (.ofNat 3), .int .u64 (.ofNat 45000), vp 1282 0, vp 1294 0, vp 1325 0, .int .i64 (.ofNat 0), .bool false, .bool false, .bool false, .int .u64 (.ofNat 0), .int .u64 (.ofNat 0)]⟩ 161 (0, 0)),
    (1310, .cells ⟨[vp 1309 0, .int .i64 (.ofNat 16384), .int .i64 (.ofNat 16384), .string ⟨⟨bs []⟩⟩, .string ⟨⟨bs []⟩⟩, .slice none 0 0, .bool false, .bool false, .slice none 0 0]⟩ 274 (0, 0)),
    (1309, .cells ⟨[vp 1308 0, .int .i64 (.ofNat 16384), .slice none 0 0, .bool false, .bool false]⟩ 398 (0, 0)),
    (1308, .cells ⟨[.slice none 0 0, .bool true]⟩ 525 (0, 0)),
    (1282, .cells ⟨[.string ⟨⟨bs []⟩⟩, .slice none 0 0, .int .i64 (.ofNat 4096), .int .i64 (.ofNat 16384), .int .i64 (.ofNat 64), .slice none 0 0, .int .i64 (.ofNat 0), .bool false, .bool false, .int .i64 (.ofNat 0)]⟩ 280 (0, 0)),
    (1294, .cells ⟨[.int .i64 (.ofNat 256), .slice none 0 0, .bool false, .int .i64 (.ofNat 0), .int .i64 (.ofNat 0), .int .i64 (.ofNat 0), .slice none 0 0, .slice none 0 0, .slice none 0 0, .int .i64 (.ofNat 0)]⟩ 287 (0, 0)),
    (1325, .cells ⟨[.int .u64 (.ofNat 1000), .int .u64 (.ofNat 60000), .int .u64 (.ofNat 1000), .int .u64 (.ofNat 1000), .int .i64 (.ofNat 0), .bool true]⟩ 267 (0, 0)),
    (1421, .cells ⟨[vp 1332 0]⟩ 63 (0, 0)),
    (1332, .cells ⟨[vp 1331 0, .bool false, .bool false, .int .u64 (.ofNat 0), .int .u64 (.ofNat 0), .int .u64 (.ofNat 0), .int .u64 (.ofNat 0), .int .u64 (.ofNat 0), .int .u64 (.ofNat 0), .int .u64 (.ofNat 0)]⟩ 152 (0, 0)),
    (1331, .cells ⟨[vp 1328 0, .int .i64 (.ofNat 1024), .int .i64 (.ofNat 1048576), .int .u64 (.ofNat 18446744073709551614), .int .u64 (.ofNat 1), .map (some 1329), .map (some 1330), .int .i64 (.ofNat 0), .int .i64 (.ofNat 0), .string ⟨⟨bs []⟩⟩]⟩ 260 (0, 0)),
    (1328, .cells ⟨[.int .u64 (.ofNat 0), .int .u64 (.ofNat 0), .slice none 0 0, .int .i64 (.ofNat 1024)]⟩ 389 (0, 0)),
    (1329, .map ⟨[]⟩ 0),
    (1330, .map ⟨[]⟩ 0),
    (842, .map ⟨[⟨.int .u64 (.ofNat 1), vp 2161 0, 0⟩]⟩ 1),
    (2161, .cells ⟨[vp 2157 0, .int .i64 (.negSucc 0)]⟩ 122 (0, 0)),
    (2157, .cells ⟨[vp 2151 0, .int .i64 (.ofNat 4096), .int .i64 (.ofNat 16384), .int .i64 (.ofNat 64), .int .i64 (.ofNat 65536), .int .u64 (.ofNat 15000), .int .i64 (.ofNat 1), vp 2149 0, .string ⟨⟨bs []⟩⟩, .slice none 0 0, .slice none 0 0, .bool false, .bool false, .bool false, .string ⟨⟨bs []⟩⟩, .bool false, vp 2160 0, .int .u64 (.ofNat 0), .bool false, .bool false]⟩ 187 (0, 0)),
    (2151, .cells ⟨[.slice none 0 0, .int .i64 (.ofNat 0), .int .i64 (.ofNat 0), vp 2150 0, .int .i64 (.ofNat 65536)]⟩ 296 (0, 0)),
    (2150, .cells ⟨[.slice none 0 0, .int .i64 (.ofNat 0), .int .i64 (.ofNat 65536), .bool true]⟩ 406 (0, 0)),
    (2149, .cells ⟨[.string ⟨⟨bs []⟩⟩, .slice none 0 0, .int .i64 (.ofNat 4096), .int .i64 (.ofNat 16384), .int .i64 (.ofNat 64), .slice none 0 0, .int .i64 (.ofNat 0), .bool false, .bool false, .int .i64 (.ofNat 0)]⟩ 280 (0, 0)),
    (2160, .cells ⟨[.int .u64 (.ofNat 0), .int .u64 (.ofNat 0), .bool false, .bool true]⟩ 302 (0, 0))]
  n1 := 2162

def c2341 : Chk where
  f := 315
  args := [vp 2149 0, vs 1422 0 19 19]
  pre := [(2149, .cells ⟨[.string ⟨⟨bs []⟩⟩, .slice none 0 0, .int .i64 (.ofNat 4096), .int .i64 (.ofNat 16384), .int .i64 (.ofNat 64), .slice none 0 0, .int .i64 (.ofNat 0), .bool false, .bool false, .int .i64 (.ofNat 0)]⟩ 280 (0, 0)),
    (1422, .cells ⟨[.int .u8 (.ofNat 71), .int .u8 (.ofNat 69), .int .u8 (.ofNat 84), .int .u8 (.ofNat 32), .int .u8 (.ofNat 47), .int .u8 (.ofNat 97), .int .u8 (.ofNat 32), .int .u8 (.ofNat 72), .int .u8 (.ofNat 84), .int .u8 (.ofNat 84), .int .u8 (.ofNat 80), .int .u8 (.ofNat 47), .int .u8 (.ofNat 49), .int .u8 (.ofNat 46), .int .u8 (.ofNat 48), .int .u8 (.ofNat 13), .int .u8 (.ofNat 10), .int .u8 (.ofNat 13), .int .u8 (.ofNat 10)]⟩ 5 (0, 1))]
  n0 := 2341
  res := .tuple ⟨[.int .i64 (.ofNat 19), .bool true, .int .i64 (.ofNat 0)]⟩
  post := [(2149, .cells ⟨[.string ⟨⟨bs [71, 69, 84, 32, 47, 97, 32, 72, 84, 84, 80, 47, 49, 46, 48]⟩⟩, .slice none 0 0, .int .i64 (.ofNat 4096), .int .i64 (.ofNat 16384), .int .i64 (.ofNat 64), .slice none 0 0, .int .i64 (.ofNat 19), .bool false, .bool true, .int .i64 (.ofNat 0)]⟩ 280 (0, 0)),
    (1422, .cells ⟨[.int .u8 (.ofNat 71), .int .u8 (.ofNat 69), .int .u8 (.ofNat 84), .int .u8 (.ofNat 32), .int .u8 (.ofNat 47), .int .u8 (.ofNat 97), .int .u8 (.ofNat 32), .int .u8 (.ofNat 72), .int .u8 (.ofNat 84), .int .u8 (.ofNat 84), .int .u8 (.ofNat 80), .int .u8 (.ofNat 47), .int .u8 (.ofNat 49), .int .u8 (.ofNat 46), .int .u8 (.ofNat 48), .int .u8 (.ofNat 13), .int .u8 (.ofNat 10), .int .u8 (.ofNat 13), .int .u8 (.ofNat 10)]⟩ 5 (0, 1))]
  n1 := 3342

def c2214 : Chk where
  f := 6
  args := [vp 843 0, .agg ⟨[.int .i64 (.ofNat 3), .int .u64 (.ofNat 1), .int .i64 (.ofNat 0), .int .u64 (.ofNat 0), .int .u64 (.ofNat 0), vs 1422 0 19 19]⟩]
  pre := [(843, .cells ⟨[vp 855 0, .int .i64 (.ofNat 1024), .int .u64 (.ofNat 5000), .int .i64 (.ofNat 4096), .int .i64 (.ofNat 16384), .int .i64 (.ofNat 64), .int .i64 (.ofNat 65536), .int .u64 (.ofNat 15000), .string ⟨⟨bs []⟩⟩, .int .i64 (.ofNat 4096), .int .i64 (.ofNat 16384), .int .i64 (.ofNat 64), .int .i64 (.ofNat 256), .int .i64 (.ofNat 16384), .int .i64 (.ofNat 16384), .int .u64 (.ofNat 1000), .int .u64 (.ofNat 60000), .int .u64 (.ofNat 1000), .int .u64 (.ofNat 45000), .int .i64 (.ofNat 1024), .int .i64 (.ofNat 1048576), .int .u64 (.ofNat 18446744073709551614), vs 841 0 1 2305843009213693953, vs 1420 0 1 1152921504606846977, vs 1421 0 1 1152921504606846977, .map (some 842), .int .u64 (.ofNat 0), .int .u64 (.ofNat 0), .bool false, .bool false, .int .i64 (.ofNat 0), .int .i64 (.ofNat 0), .int .u64 (.ofNat 1), .int .u64 (.ofNat 0), .int .u64 (.ofNat 0), .int .u64 (.ofNat 0), .slice none 0 0]⟩ 52 (0, 0)),
    (855, .cells ⟨[vs 1397 0 1 1152921504606846977, .bool true]⟩ 173 (0, 0)),
    (1397, .cells ⟨[vs 1396 0 1 2305843009213693953]⟩ 169 (0, 0)),
    (1396, .cells ⟨[.int .i64 (.ofNat 1), .string ⟨⟨bs [97]⟩⟩]⟩ 311 (0, 0)),
    (841, .cells ⟨[.string ⟨⟨bs [47, 97]⟩⟩, .string ⟨⟨bs [47, 117, 112]⟩⟩]⟩ 86 (0, 0)),
    (1420, .cells ⟨[vp 1220 0]⟩ 107 (0, 0)),
    (1220, .cells ⟨[vp 1310 0, .string ⟨⟨bs [47, 117, 112]⟩⟩, .int .i64 (.ofNat 4096), .int .i64 (.ofNat 16384), .int .i64 (.ofNat 64), .int .i64 (.ofNat 256), .int .i64 (.ofNat 16384), .int .i64 (.ofNat 16384), .int .u64 (.ofNat 1000), .int .u64 (.ofNat 60000), .int .u64 (.ofNat 1000), .int .u64 (.ofNat 45000), .int .i64 (.ofNat 3), .int .u64 (.ofNat 45000), vp 1282 0, vp 1294 0, vp 1325 0, .int .i64 (.ofNat 0), .bool false, .bool false, .bool false, .int .u64 (.ofNat 0), .int .u64 (.ofNat 0)]⟩ 161 (0, 0)),
    (1310, .cells ⟨[vp 1309 0, .int .i64 (.ofNat 16384), .int .i64 (.ofNat 16384), .string ⟨⟨bs []⟩⟩, .string ⟨⟨bs []⟩⟩, .slice none 0 0, .bool false, .bool false, .slice none 0 0]⟩ 274 (0, 0)),
    (1309, .cells ⟨[vp 1308 0, .int .i64 (.ofNat 16384), .slice none 0 0, .bool false, .bool false]⟩ 398 (0, 0)),
    (1308, .cells ⟨[.slice none 0 0, .bool true]⟩ 525 (0, 0)),
    (1282, .cells ⟨[.string ⟨⟨bs []⟩⟩, .slice none 0 0, .int .i64 (.ofNat 4096), .int .i64 (.ofNat 16384), .int .i64 (.ofNat 64), .slice none 0 0, .int .i64 (.ofNat 0), .bool false, .bool false, .int .i64 (.ofNat 0)]⟩ 280 (0, 0)),
    (1294, .cells ⟨[.int .i64 (.ofNat 256), .slice none 0 0, .bool false, .int .i64 (.ofNat 0), .int .i64 (.ofNat 0), .int .i64 (.ofNat 0), .slice none 0 0, .slice none 0 0, .slice none 0 0, .int .i64 (.ofNat 0)]⟩ 287 (0, 0)),
    (1325, .cells ⟨[.int .u64 (.ofNat 1000), .int .u64 (.ofNat 60000), .int .u64 (.ofNat 1000), .int .u64 (.ofNat 1000), .int .i64 (.ofNat 0), .bool true]⟩ 267 (0, 0)),
    (1421, .cells ⟨[vp 1332 0]⟩ 63 (0, 0)),
    (1332, .cells ⟨[vp 1331 0, .bool false, .bool false, .int .u64 (.ofNat 0), .int .u64 (.ofNat 0), .int .u64 (.ofNat 0), .int .u64 (.ofNat 0), .int .u64 (.ofNat 0), .int .u64 (.ofNat 0), .int .u64 (.ofNat 0)]⟩ 152 (0, 0)),
    (1331, .cells ⟨[vp 1328 0, .int .i64 (.ofNat 1024), .int .i64 (.ofNat 1048576), .int .u64 (.ofNat 18446744073709551614), .int .u64 (.ofNat 1), .map (some 1329), .map (some 1330), .int .i64 (.ofNat 0), .int .i64 (.ofNat 0), .string ⟨⟨bs []⟩⟩]⟩ 260 (0, 0)),
    (1328, .cells ⟨[.int .u64 (.ofNat 0), .int .u64 (.ofNat 0), .slice none 0 0, .int .i64 (.ofNat 1024)]⟩ 389 (0, 0)),
    (1329, .map ⟨[]⟩ 0),
    (1330, .map ⟨[]⟩ 0),
    (842, .map ⟨[⟨.int .u64 (.ofNat 1), vp 2161 0, 0⟩]⟩ 1),
    (2161, .cells ⟨[vp 2157 0, .int .i64 (.negSucc 0)]⟩ 122 (0, 0)),
    (2157, .cells ⟨[vp 2151 0, .int .i64 (.ofNat 4096), .int .i64 (.ofNat 16384), .int .i64 (.ofNat 64), .int .i64 (.ofNat 65536), .int .u64 (.ofNat 15000), .int .i64 (.ofNat 1), vp 2149 0, .string ⟨⟨bs []⟩⟩, .slice none 0 0, .slice none 0 0, .bool false, .bool false, .bool false, .string ⟨⟨bs []⟩⟩, .bool false, vp 2160 0, .int .u64 (.ofNat 0), .bool false, .bool false]⟩ 187 (0, 0)),
    (2151, .cells ⟨[.slice none 0 0, .int .i64 (.ofNat 0), .int .i64 (.ofNat 0), vp 2150 0, .int .i64 (.ofNat 65536)]⟩ 296 (0, 0)),
    (2150, .cells ⟨[.slice none 0 0, .int .i64 (.ofNat 0), .int .i64 (.ofNat 65536), .bool true]⟩ 406 (0, 0)),
    (2149, .cells ⟨[.string ⟨⟨bs []⟩⟩, .slice none 0 0, .int .i64 (.ofNat 4096), .int .i64 (.ofNat 16384), .int .i64 (.ofNat 64), .slice none 0 0, .int .i64 (.ofNat 0), .bool false, .bool false, .int .i64 (.ofNat 0)]⟩ 280 (0, 0)),
    (2160, .cells ⟨[.int .u64 (.ofNat 0), .int .u64 (.ofNat 0), .bool false, .bool true]⟩ 302 (0, 0)),
    (1422, .cells ⟨[.int .u8 (.ofNat 71), .int .u8 (.ofNat 69), .int .u8 (.ofNat 84), .int .u8 (.ofNat 32), .int .u8 (.ofNat 47), .int .u8 (.ofNat 97), .int .u8 (.ofNat 32), .int .u8 (.ofNat 72), .int .u8 (.ofNat 84), .int .u8 (.ofNat 84), .int .u8 (.ofNat 80), .int .u8 (.ofNat 47), .int .u8 (.ofNat 49), .int .u8 (.ofNat 46), .int .u8 (.ofNat 48), .int .u8 (.ofNat 13), .int .u8 (.ofNat 10), .int .u8 (.ofNat 13), .int .u8 (.ofNat 10)]⟩ 5 (0, 1))]
  n0 := 2214
  res := .tuple ⟨[.slice none 0 0, .int .i64 (.ofNat 0)]⟩
  post := [(843, .cells ⟨[vp 855 0, .int .i64 (.ofNat 1024), .int .u64 (.ofNat 5000), .int .i64 (.ofNat 4096), .int .i64 (.ofNat 16384), .int .i64 (.ofNat 64), .int .i64 (.ofNat 65536), .int .u64 (.ofNat 15000), .string ⟨⟨bs []⟩⟩, .int .i64 (.ofNat 4096), .int .i64 (.ofNat 16384), .int .i64 (.ofNat 64), .int .i64 (.ofNat 256), .int .i64 (.ofNat 16384), .int .i64 (.ofNat 16384), .int .u64 (.ofNat 1000), .int .u64 (.ofNat 60000), .int .u64 (.ofNat 1000), .int .u64 (.ofNat 45000), .int .i64 (.ofNat 1024), .int .i64 (.ofNat 1048576), .int .u64 (.ofNat 18446744073709551614), vs 841 0 1 2305843009213693953, vs 1420 0 1 1152921504606846977, vs 1421 0 1 1152921504606846977, .map (some 842), .int .u64 (.ofNat 0), .int .u64 (.ofNat 0), .bool false, .bool false, .int .i64 (.ofNat 0), .int .i64 (.ofNat 0), .int .u64 (.ofNat 1), .int .u64 (.ofNat 0), .int .u64 (.ofNat 0), .int .u64 (.ofNat 0), .slice none 0 0]⟩ 52 (0, 0)),
    (855, .cells ⟨[vs 1397 0 1 1152921504606846977, .bool true]⟩ 173 (0, 0)),
    (1397, .cells ⟨[vs 1396 0 1 2305843009213693953]⟩ 169 (0, 0)),
    (1396, .cells ⟨[.int .i64 (.ofNat 1), .string ⟨⟨bs [97]⟩⟩]⟩ 311 (0, 0)),
    (841, .cells ⟨[.string ⟨⟨bs [47, 97]⟩⟩, .string ⟨⟨bs [47, 117, 112]⟩⟩]⟩ 86 (0, 0)),
    (1420, .cells ⟨[vp 1220 0]⟩ 107 (0, 0)),
    (1220, .cells ⟨[vp 1310 0, .string ⟨⟨bs [47, 117, 112]⟩⟩, .int .i64 (.ofNat 4096), .int .i64 (.ofNat 16384), .int .i64 (.ofNat 64), .int .i64 (.ofNat 256), .int .i64 (.ofNat 16384), .int .i64 (.ofNat 16384), .int .u64 (.ofNat 1000), .int .u64 (.ofNat 60000), .int .u64 (.ofNat 1000), .int .u64 (.ofNat 45000), .int .i64 (.ofNat 3), .int .u64 (.ofNat 45000), vp 1282 0, vp 1294 0, vp 1325 0, .int .i64 (.ofNat 0), .bool false, .bool false, .bool false, .int .u64 (.ofNat 0), .int .u64 (.ofNat 0)]⟩ 161 (0, 0)),
    (1310, .cells ⟨[vp 1309 0, .int .i64 (.ofNat 16384), .int .i64 (.ofNat 16384), .string ⟨⟨bs []⟩⟩, .string ⟨⟨bs []⟩⟩, .slice none 0 0, .bool false, .bool false, .slice none 0 0]⟩ 274 (0, 0)),
    (1309, .cells ⟨[vp 1308 0, .int .i64 (.ofNat 16384), .slice none 0 0, .bool false, .bool false]⟩ 398 (0, 0)),
    (1308, .cells ⟨[.slice none 0 0, .bool true]⟩ 525 (0, 0)),
    (1282, .cells ⟨[.string ⟨⟨bs []⟩⟩, .slice none 0 0, .int .i64 (.ofNat 4096), .int .i64 (.ofNat 16384), .int .i64 (.ofNat 64), .slice none 0 0, .int .i64 (.ofNat 0), .bool false, .bool false, .int .i64 (.ofNat 0)]⟩ 280 (0, 0)),
    (1294, .cells ⟨[.int .i64 (.ofNat 256), .slice none 0 0, .bool false, .int .i64 (.ofNat 0), .int .i64 (.ofNat 0), .int .i64 (.ofNat 0), .slice none 0 0, .slice none 0 0, .slice none 0 0, .int .i64 (.ofNat 0)]⟩ 287 (0, 0)),
    (1325, .cells ⟨[.int .u64 (.ofNat 1000), .int .u64 (.ofNat 60000), .int .u64 (.ofNat 1000), .int .u64 (.ofNat 1000), .int .i64 (.ofNat 0), .bool true]⟩ 267 (0, 0)),
    (1421, .cells ⟨[vp 1332 0]⟩ 63 (0, 0)),
    (1332, .cells ⟨[vp 1331 0, .bool false, .bool false, .int .u64 (.ofNat 0), .int .u64 (.ofNat 0), .int .u64 (.ofNat 0), .int .u64 (.ofNat 0), .int .u64 (.ofNat 0), .int .u64 (.ofNat 0), .int .u64 (.ofNat 0)]⟩ 152 (0, 0)),
    (1331, .cells ⟨[vp 1328 0, .int .i64 (.ofNat 1024), .int .i64 (.ofNat 1048576), .int .u64 (.ofNat 18446744073709551614), .int .u64 (.ofNat 1), .map (some 1329), .map (some 1330), .int .i64 (.ofNat 0), .int .i64 (.ofNat 0), .string ⟨⟨bs []⟩⟩]⟩ 260 (0, 0)),
    (1328, .cells ⟨[.int .u64 (.ofNat 0), .int .u64 (.ofNat 0), .slice none 0 0, .int .i64 (.ofNat 1024)]⟩ 389 (0, 0)),
    (1329, .map ⟨[]⟩ 0),
    (1330, .map ⟨[]⟩ 0),
    (842, .map ⟨[⟨.int .u64 (.ofNat 1), vp 2161 0, 0⟩]⟩ 1),
    (2161, .cells ⟨[vp 2157 0, .int .i64 (.ofNat 0)]⟩ 122 (0, 0)),
    (2157, .cells ⟨[vp 2151 0, .int .i64 (.ofNat 4096), .int .i64 (.ofNat 16384), .int .i64 (.ofNat 64), .int .i64 (.ofNat 65536), .int .u64 (.ofNat 15000), .int .i64 (.ofNat 3), vp 2149 0, .string ⟨⟨bs [71, 69, 84]⟩⟩, vs 3391 0 1 1152921504606846977, .slice none 0 0, .bool true, .bool false, .bool true, .string ⟨⟨bs []⟩⟩, .bool true, vp 2160 0, .int .u64 (.ofNat 15000), .bool true, .bool false]⟩ 187 (0, 0)),
    (2151, .cells ⟨[vs 4017 0 1 1152921504606846977, .int .i64 (.ofNat 0), .int .i64 (.ofNat 0), vp 2150 0, .int .i64 (.ofNat 65536)]⟩ 296 (0, 0)),
    (4017, .cells ⟨[.int .i64 (.ofNat 96)]⟩ 3 (0, 0)),
    (2150, .cells ⟨[vs 3997 0 96 1152921504606847072, .int .i64 (.ofNat 0), .int .i64 (.ofNat 65536), .bool true]⟩ 406 (0, 0)),
    (3997, .cells ⟨[.int .u8 (.ofNat 72), .int .u8 (.ofNat 84), .int .u8 (.ofNat 84), .int .u8 (.ofNat 80), .int .u8 (.ofNat 47), .int .u8 (.ofNat 49), .int .u8 (.ofNat 46), .int .u8 (.ofNat 49), .int .u8 (.ofNat 32), .int .u8 (.ofNat 50), .int .u8 (.ofNat 48), .int .u8 (.ofNat 48), .int .u8 (.ofNat 32), .int .u8 (.ofNat 79), .int .u8 (.ofNat 75), .int .u8 (.ofNat 13), .int .u8 (.ofNat 10), .int .u8 (.ofNat 99), .int .u8 (.ofNat 111), .int .u8 (.ofNat 110), .int .u8 (.ofNat 116), .int .u8 (.ofNat 101), .int .u8 (.ofNat 110), .int .u8 (.ofNat 116), .int .u8 (.ofNat 45), .int .u8 (.ofNat 116), .int .u8 (.ofNat 121), .int .u8 (.ofNat 112), .int .u8 (.ofNat 101), .int .u8 (.ofNat 58), .int .u8 (.ofNat 32), .int .u8 (.ofNat 116), .int .u8 (.ofNat 101), .int .u8 (.ofNat 120), .int .u8 (.ofNat 116), .int .u8 (.ofNat 47), .int .u8 (.ofNat 101), .int .u8 (.ofNat 118), .int .u8 (.ofNat 101), .int .u8 (.ofNat 110), .int .u8 (.ofNat 116), .int .u8 (.ofNat 45), .int .u8 (.ofNat 115), .int .u8 (.ofNat 116), .int .u8 (.ofNat 114), .int .u8 (.ofNat 101), .int .u8 (.ofNat 97), .int .u8 (.ofNat 109), .int .u8 (.ofNat 13), .int .u8 (.ofNat 10), .int .u8 (.ofNat 99), .int .u8 (.ofNat 97), .int .u8 (.ofNat 99), .int .u8 (.ofNat 104), .int .u8 (.ofNat 101), .int .u8 (.ofNat 45), .int .u8 (.ofNat 99), .int .u8 (.ofNat 111), .int .u8 (.ofNat 110), .int .u8 (.ofNat 116), .int .u8 (.ofNat 114), .int .u8 (.ofNat 111), .int .u8 (.ofNat 108), .int .u8 (.ofNat 58), .int .u8 (.ofNat 32), .int .u8 (.ofNat 110), .int .u8 (.ofNat 111), .int .u8 (.ofNat 45), .int .u8 (.ofNat 115), .int .u8 (.ofNat 116), .int .u8 (.ofNat 111), .int .u8 (.ofNat 114), .int .u8 (.ofNat 101), .int .u8 (.ofNat 13), .int .u8 (.ofNat 10), .int .u8 (.ofNat 99), .int .u8 (.ofNat 111), .int .u8 (.ofNat 110), .int .u8 (.ofNat 110), .int .u8 (.ofNat 101), .int .u8 (.ofNat 99), .int .u8 (.ofNat 116), .int .u8 (.ofNat 105), .int .u8 (.ofNat 111), .int .u8 (.ofNat 110), .int .u8 (.ofNat 58), .int .u8 (.ofNat 32), .int .u8 (.ofNat 99), .int .u8 (.ofNat 108), .int .u8 (.ofNat 111), .int .u8 (.ofNat 115), .int .u8 (.ofNat 101), .int .u8 (.ofNat 13), .int .u8 (.ofNat 10), .int .u8 (.ofNat 13), .int .u8 (.ofNat 10)]⟩ 5 (0, 0)),
    (2149, .cells ⟨[.string ⟨⟨bs [71, 69, 84, 32, 47, 97, 32, 72, 84, 84, 80, 47, 49, 46, 48]⟩⟩, .slice none 0 0, .int .i64 (.ofNat 4096), .int .i64 (.ofNat 16384), .int .i64 (.ofNat 64), .slice none 0 0, .int .i64 (.ofNat 19), .bool false, .bool true, .int .i64 (.ofNat 0)]⟩ 280 (0, 0)),
    (3391, .cells ⟨[.string ⟨⟨bs [97]⟩⟩]⟩ 9 (0, 0)),
    (2160, .cells ⟨[.int .u64 (.ofNat 0), .int .u64 (.ofNat 0), .bool false, .bool true]⟩ 302 (0, 0)),
    (1422, .cells ⟨[.int .u8 (.ofNat 71), .int .u8 (.ofNat 69), .int .u8 (.ofNat 84), .int .u8 (.ofNat 32), .int .u8 (.ofNat 47), .int .u8 (.ofNat 97), .int .u8 (.ofNat 32), .int .u8 (.ofNat 72), .int .u8 (.ofNat 84), .int .u8 (.ofNat 84), .int .u8 (.ofNat 80), .int .u8 (.ofNat 47), .int .u8 (.ofNat 49), .int .u8 (.ofNat 46), .int .u8 (.ofNat 48), .int .u8 (.ofNat 13), .int .u8 (.ofNat 10), .int .u8 (.ofNat 13), .int .u8 (.ofNat 10)]⟩ 5 (0, 1))]
  n1 := 4641

def c4641 : Chk where
  f := 6
  args := [vp 843 0, .agg ⟨[.int .i64 (.ofNat 4), .int .u64 (.ofNat 1), .int .i64 (.ofNat 0), .int .u64 (.ofNat 1000), .int .u64 (.ofNat 0), .slice none 0 0]⟩]
  pre := [(843, .cells ⟨[vp 855 0, .int .i64 (.ofNat 1024), .int .u64 (.ofNat 5000), .int .i64 (.ofNat 4096), .int .i64 (.ofNat 16384), .int .i64 (.ofNat 64), .int .i64 (.ofNat 65536), .int .u64 (.ofNat 15000), .string ⟨⟨bs []⟩⟩, .int .i64 (.ofNat 4096), .int .i64 (.ofNat 16384), .int .i64 (.ofNat 64), .int .i64 (.ofNat 256), .int .i64 (.ofNat 16384), .int .i64 (.ofNat 16384), .int .u64 (.ofNat 1000), .int .u64 (.ofNat 60000), .int .u64 (.ofNat 1000), .int .u64 (.ofNat 45000), .int .i64 (.ofNat 1024), .int .i64 (.ofNat 1048576), .int .u64 (.ofNat 18446744073709551614), vs 841 0 1 2305843009213693953, vs 1420 0 1 1152921504606846977, vs 1421 0 1 1152921504606846977, .map (some 842), .int .u64 (.ofNat 0), .int .u64 (.ofNat 0), .bool false, .bool false, .int .i64 (.ofNat 0), .int .i64 (.ofNat 0), .int .u64 (.ofNat 1), .int .u64 (.ofNat 0), .int .u64 (.ofNat 0), .int .u64 (.ofNat 0), .slice none 0 0]⟩ 52 (0, 0)),
    (855, .cells ⟨[vs 1397 0 1 1152921504606846977, .bool true]⟩ 173 (0, 0)),
    (1397, .cells ⟨[vs 1396 0 1 2305843009213693953]⟩ 169 (0, 0)),
    (1396, .cells ⟨[.int .i64 (.ofNat 1), .string ⟨⟨bs [97]⟩⟩]⟩ 311 (0, 0)),
    (841, .cells ⟨[.string ⟨⟨bs [47, 97]⟩⟩, .string ⟨⟨bs [47, 117, 112]⟩⟩]⟩ 86 (0, 0)),
    (1420, .cells ⟨[vp 1220 0]⟩ 107 (0, 0)),
    (1220, .cells ⟨[vp 1310 0, .string ⟨⟨bs [47, 117, 112]⟩⟩, .int .i64 (.ofNat 4096), .int .i64 (.ofNat 16384), .int .i64 (.ofNat 64), .int .i64 (.ofNat 256), .int .i64 (.ofNat 16384), .int .i64 (.ofNat 16384), .int .u64 (.ofNat 1000), .int .u64 (.ofNat 60000), .int .u64 (.ofNat 1000), .int .u64 (.ofNat 45000), .int .i64 (.ofNat 3), .int .u64 (.ofNat 45000), vp 1282 0, vp 1294 0, vp 1325 0, .int .i64 (.ofNat 0), .bool false, .bool false, .bool false, .int .u64 (.ofNat 0), .int .u64 (.ofNat 0)]⟩ 161 (0, 0)),
    (1310, .cells ⟨[vp 1309 0, .int .i64 (.ofNat 16384), .int .i64 (.ofNat 16384), .string ⟨⟨bs []⟩⟩, .string ⟨⟨bs []⟩⟩, .slice none 0 0, .bool false, .bool false, .slice none 0 0]⟩ 274 (0, 0)),
    (1309, .cells ⟨[vp 1308 0, .int .i64 (.ofNat 16384), .slice none 0 0, .bool false, .bool false]⟩ 398 (0, 0)),
    (1308, .cells ⟨[.slice none 0 0, .bool true]⟩ 525 (0, 0)),
    (1282, .cells ⟨[.string ⟨⟨bs []⟩⟩, .slice none 0 0, .int .i64 (.ofNat 4096), .int .i64 (.ofNat 16384), .int .i64 (.ofNat 64), .slice none 0 0, .int .i64 (.ofNat 0), .bool false, .bool false, .int .i64 (.ofNat 0)]⟩ 280 (0, 0)),
    (1294, .cells ⟨[.int .i64 (.ofNat 256), .slice none 0 0, .bool false, .int .i64 (.ofNat 0), .int .i64 (.ofNat 0), .int .i64 (.ofNat 0), .slice none 0 0, .slice none 0 0, .slice none 0 0, .int .i64 (.ofNat 0)]⟩ 287 (0, 0)),
    (1325, .cells ⟨[.int .u64 (.ofNat 1000), .int .u64 (.ofNat 60000), .int .u64 (.ofNat 1000), .int .u64 (.ofNat 1000), .int .i64 (.ofNat 0), .bool true]⟩ 267 (0, 0)),
    (1421, .cells ⟨[vp 1332 0]⟩ 63 (0, 0)),
    (1332, .cells ⟨[vp 1331 0, .bool false, .bool false, .int .u64 (.ofNat 0), .int .u64 (.ofNat 0), .int .u64 (.ofNat 0), .int .u64 (.ofNat 0), .int .u64 (.ofNat 0), .int .u64 (.ofNat 0), .int .u64 (.ofNat 0)]⟩ 152 (0, 0)),
    (1331, .cells ⟨[vp 1328 0, .int .i64 (.ofNat 1024), .int .i64 (.ofNat 1048576), .int .u64 (.ofNat 18446744073709551614), .int .u64 (.ofNat 1), .map (some 1329), .map (some 1330), .int .i64 (.ofNat 0), .int .i64 (.ofNat 0), .string ⟨⟨bs []⟩⟩]⟩ 260 (0, 0)),
    (1328, .cells ⟨[.int .u64 (.ofNat 0), .int .u64 (.ofNat 0), .slice none 0 0, .int .i64 (.ofNat 1024)]⟩ 389 (0, 0)),
    (1329, .map ⟨[]⟩ 0),
    (1330, .map ⟨[]⟩ 0),
    (842, .map ⟨[⟨.int .u64 (.ofNat 1), vp 2161 0, 0⟩]⟩ 1),
    (2161, .cells ⟨[vp 2157 0, .int .i64 (.ofNat 0)]⟩ 122 (0, 0)),
    (2157, .cells ⟨[vp 2151 0, .int .i64 (.ofNat 4096), .int .i64 (.ofNat 16384), .int .i64 (.ofNat 64), .int .i64 (.ofNat 65536), .int .u64 (.ofNat 15000), .int .i64 (.ofNat 3), vp 2149 0, .string ⟨⟨bs [71, 69, 84]⟩⟩, vs 3391 0 1 1152921504606846977, .slice none 0 0, .bool true, .bool false, .bool true, .string ⟨⟨bs []⟩⟩, .bool true, vp 2160 0, .int .u64 (.ofNat 15000), .bool true, .bool false]⟩ 187 (0, 0)),
    (2151, .cells ⟨[vs 4017 0 1 1152921504606846977, .int .i64 (.ofNat 0), .int .i64 (.ofNat 0), vp 2150 0, .int .i64 (.ofNat 65536)]⟩ 296 (0, 0)),
    (4017, .cells ⟨[.int .i64 (.ofNat 96)]⟩ 3 (0, 0)),
    (2150, .cells ⟨[vs 3997 0 96 1152921504606847072, .int .i64 (.ofNat 0), .int .i64 (.ofNat 65536), .bool true]⟩ 406 (0, 0)),
    (3997, .cells ⟨[.int .u8 (.ofNat 72), .int .u8 (.ofNat 84), .int .u8 (.ofNat 84), .int .u8 (.ofNat 80), .int .u8 (.ofNat 47), .int .u8 (.ofNat 49), .int .u8 (.ofNat 46), .int .u8 (.ofNat 49), .int .u8 (.ofNat 32), .int .u8 (.ofNat 50), .int .u8 (.ofNat 48), .int .u8 (.ofNat 48), .int .u8 (.ofNat 32), .int .u8 (.ofNat 79), .int .u8 (.ofNat 75), .int .u8 (.ofNat 13), .int .u8 (.ofNat 10), .int .u8 (.ofNat 99), .int .u8 (.ofNat 111), .int .u8 (.ofNat 110), .int .u8 (.ofNat 116), .int .u8 (.ofNat 101), .int .u8 (.ofNat 110), .int .u8 (.ofNat 116), .int .u8 (.ofNat 45), .int .u8 (.ofNat 116), .int .u8 (.ofNat 121), .int .u8 (.ofNat 112), .int .u8 (.ofNat 101), .int .u8 (.ofNat 58), .int .u8 (.ofNat 32), .int .u8 (.ofNat 116), .int .u8 (.ofNat 101), .int .u8 (.ofNat 120), .int .u8 (.ofNat 116), .int .u8 (.ofNat 47), .int .u8 (.ofNat 101), .int .u8 (.ofNat 118), .int .u8 (.ofNat 101), .int .u8 (.ofNat 110), .int .u8 (.ofNat 116), .int .u8 (.ofNat 45), .int .u8 (.ofNat 115), .int .u8 (.ofNat 116), .int .u8 (.ofNat 114), .int .u8 (.ofNat 101), .int .u8 (.ofNat 97), .int .u8 (.ofNat 109), .int .u8 (.ofNat 13), .int .u8 (.ofNat 10), .int .u8 (.ofNat 99), .int .u8 (.ofNat 97), .int .u8 (.ofNat 99), .int .u8 (.ofNat 104), .int .u8 (.ofNat 101), .int .u8 (.ofNat 45), .int .u8 (.ofNat 99), .int .u8 (.ofNat 111), .int .u8 (.ofNat 110), .int .u8 (.ofNat 116), .int .u8 (.ofNat 114), .int .u8 (.ofNat 111), .int .u8 (.ofNat 108), .int .u8 (.ofNat 58), .int .u8 (.ofNat 32), .int .u8 (.ofNat 110), .int .u8 (.ofNat 111), .int .u8 (.ofNat 45), .int .u8 (.ofNat 115), .int .u8 (.ofNat 116), .int .u8 (.ofNat 111), .int .u8 (.ofNat 114), .int .u8 (.ofNat 101), .int .u8 (.ofNat 13), .int .u8 (.ofNat 10), .int .u8 (.ofNat 99), .int .u8 (.ofNat 111), .int .u8 (.ofNat 110), .int .u8 (.ofNat 110), .int .u8 (.ofNat 101), .int .u8 (.ofNat 99), .int .u8 (.ofNat 116), .int .u8 (.ofNat 105), .int .u8 (.ofNat 111), .int .u8 (.ofNat 110), .int .u8 (.ofNat 58), .int .u8 (.ofNat 32), .int .u8 (.ofNat 99), .int .u8 (.ofNat 108), .int .u8 (.ofNat 111), .int .u8 (.ofNat 115), .int .u8 (.ofNat 101), .int .u8 (.ofNat 13), .int .u8 (.ofNat 10), .int .u8 (.ofNat 13), .int .u8 (.ofNat 10)]⟩ 5 (0, 0)),
    (2149, .cells ⟨[.string ⟨⟨bs [71, 69, 84, 32, 47, 97, 32, 72, 84, 84, 80, 47, 49, 46, 48]⟩⟩, .slice none 0 0, .int .i64 (.ofNat 4096), .int .i64 (.ofNat 16384), .int .i64 (.ofNat 64), .slice none 0 0, .int .i64 (.ofNat 19), .bool false, .bool true, .int .i64 (.ofNat 0)]⟩ 280 (0, 0)),
    (3391, .cells ⟨[.string ⟨⟨bs [97]⟩⟩]⟩ 9 (0, 0)),
    (2160, .cells ⟨[.int .u64 (.ofNat 0), .int .u64 (.ofNat 0), .bool false, .bool true]⟩ 302 (0, 0))]
  n0 := 4641
  res := .tuple ⟨[vs 4894 0 1 4611686018427387905, .int .i64 (.ofNat 0)]⟩
  post := [(4894, .cells ⟨[.int .i64 (.ofNat 2), .int .u64 (.ofNat 1), .int .i64 (.ofNat 0), vs 4770 0 96 1152921504606847072]⟩ 91 (0, 0)),
    (4770, .cells ⟨[.int .u8 (.ofNat 72), .int .u8 (.ofNat 84), .int .u8 (.ofNat 84), .int .u8 (.ofNat 80), .int .u8 (.ofNat 47), .int .u8 (.ofNat 49), .int .u8 (.ofNat 46), .int .u8 (.ofNat 49), .int .u8 (.ofNat 32), .int .u8 (.ofNat 50), .int .u8 (.ofNat 48), .int .u8 (.ofNat 48), .int .u8 (.ofNat 32), .int .u8 (.ofNat 79), .int .u8 (.ofNat 75), .int .u8 (.ofNat 13), .int .u8 (.ofNat 10), .int .u8 (.ofNat 99), .int .u8 (.ofNat 111), .int .u8 (.ofNat 110), .int .u8 (.ofNat 116), .int .u8 (.ofNat 101), .int .u8 (.ofNat 110), .int .u8 (.ofNat 116), .int .u8 (.ofNat 45), .int .u8 (.ofNat 116), .int .u8 (.ofNat 121), .int .u8 (.ofNat 112), .int .u8 (.ofNat 101), .int .u8 (.ofNat 58), .int .u8 (.ofNat 32), .int .u8 (.ofNat 116), .int .u8 (.ofNat 101), .int .u8 (.ofNat 120), .int .u8 (.ofNat 116), .int .u8 (.ofNat 47), .int .u8 (.ofNat 101), .int .u8 (.ofNat 118), .int .u8 (.ofNat 101), .int .u8 (.ofNat 110), .int .u8 (.ofNat 116), .int .u8 (.ofNat 45), .int .u8 (.ofNat 115), .int .u8 (.ofNat 116), .int .u8 (.ofNat 114), .int .u8 (.ofNat 101), .int .u8 (.ofNat 97), .int .u8 (.ofNat 109), .int .u8 (.ofNat 13), .int .u8 (.ofNat 10), .int .u8 (.ofNat 99), .int .u8 (.ofNat 97), .int .u8 (.ofNat 99), .int .u8 (.ofNat 104), .int .u8 (.ofNat 101), .int .u8 (.ofNat 45), .int .u8 (.ofNat 99), .int .u8 (.ofNat 111), .int .u8 (.ofNat 110), .int .u8 (.ofNat 116), .int .u8 (.ofNat 114), .int .u8 (.ofNat 111), .int .u8 (.ofNat 108), .int .u8 (.ofNat 58), .int .u8 (.ofNat 32), .int .u8 (.ofNat 110), .int .u8 (.ofNat 111), .int .u8 (.ofNat 45), .int .u8 (.ofNat 115), .int .u8 (.ofNat 116), .int .u8 (.ofNat 111), .int .u8 (.ofNat 114), .int .u8 (.ofNat 101), .int .u8 (.ofNat 13), .int .u8 (.ofNat 10), .int .u8 (.ofNat 99), .int .u8 (.ofNat 111), .int .u8 (.ofNat 110), .int .u8 (.ofNat 110), .int .u8 (.ofNat 101), .int .u8 (.ofNat 99), .int .u8 (.ofNat 116), .int .u8 (.ofNat 105), .int .u8 (.ofNat 111), .int .u8 (.ofNat 110), .int .u8 (.ofNat 58), .int .u8 (.ofNat 32), .int .u8 (.ofNat 99), .int .u8 (.ofNat 108), .int .u8 (.ofNat 111), .int .u8 (.ofNat 115), .int .u8 (.ofNat 101), .int .u8 (.ofNat 13), .int .u8 (.ofNat 10), .int .u8 (.ofNat 13), .int .u8 (.ofNat 10)]⟩ 5 (0, 0)),
    (843, .cells ⟨[vp 855 0, .int .i64 (.ofNat 1024), .int .u64 (.ofNat 5000), .int .i64 (.ofNat 4096), .int .i64 (.ofNat 16384), .int .i64 (.ofNat 64), .int .i64 (.ofNat 65536), .int .u64 (.ofNat 15000), .string ⟨⟨bs []⟩⟩, .int .i64 (.ofNat 4096), .int .i64 (.ofNat 16384), .int .i64 (.ofNat 64), .int .i64 (.ofNat 256), .int .i64 (.ofNat 16384), .int .i64 (.ofNat 16384), .int .u64 (.ofNat 1000), .int .u64 (.ofNat 60000), .int .u64 (.ofNat 1000), .int .u64 (.ofNat 45000), .int .i64 (.ofNat 1024), .int .i64 (.ofNat 1048576), .int .u64 (.ofNat 18446744073709551614), vs 841 0 1 2305843009213693953, vs 1420 0 1 1152921504606846977, vs 1421 0 1 1152921504606846977, .map (some 842), .int .u64 (.ofNat 0), .int .u64 (.ofNat 0), .bool false, .bool false, .int .i64 (.ofNat 0), .int .i64 (.ofNat 0), .int .u64 (.ofNat 1), .int .u64 (.ofNat 0), .int .u64 (.ofNat 0), .int .u64 (.ofNat 0), .slice none 0 0]⟩ 52 (0, 0)),
    (855, .cells ⟨[vs 1397 0 1 1152921504606846977, .bool true]⟩ 173 (0, 0)),
    (1397, .cells ⟨[vs 1396 0 1 2305843009213693953]⟩ 169 (0, 0)),
    (1396, .cells ⟨[.int .i64 (.ofNat 1), .string ⟨⟨bs [97]⟩⟩]⟩ 311 (0, 0)),
    (841, .cells ⟨[.string ⟨⟨bs [47, 97]⟩⟩, .string ⟨⟨bs [47, 117, 112]⟩⟩]⟩ 86 (0, 0)),
    (1420, .cells ⟨[vp 1220 0]⟩ 107 (0, 0)),
    (1220, .cells ⟨[vp 1310 0, .string ⟨⟨bs [47, 117, 112]⟩⟩, .int .i64 (.ofNat 4096), .int .i64 (.ofNat 16384), .int .i64 (.ofNat 64), .int .i64 (.ofNat 256), .int .i64 (.ofNat 16384), .int .i64 (.ofNat 16384), .int .u64 (.ofNat 1000), .int .u64 (.ofNat 60000), .int .u64 (.ofNat 1000), .int .u64 (.ofNat 45000), .int .i64 (.ofNat 3), .int .u64 (.ofNat 45000), vp 1282 0, vp 1294 0, vp 1325 0, .int .i64 (.ofNat 0), .bool false, .bool false, .bool false, .int .u64 (.ofNat 0), .int .u64 (.ofNat 0)]⟩ 161 (0, 0)),
    (1310, .cells ⟨[vp 1309 0, .int .i64 (.ofNat 16384), .int .i64 (.ofNat 16384), .string ⟨⟨bs []⟩⟩, .string ⟨⟨bs []⟩⟩, .slice none 0 0, .bool false, .bool false, .slice none 0 0]⟩ 274 (0, 0)),
    (1309, .cells ⟨[vp 1308 0, .int .i64 (.ofNat 16384), .slice none 0 0, .bool false, .bool false]⟩ 398 (0, 0)),
    (1308, .cells ⟨[.slice none 0 0, .bool true]⟩ 525 (0, 0)),
    (1282, .cells ⟨[.string ⟨⟨bs []⟩⟩, .slice none 0 0, .int .i64 (.ofNat 4096), .int .i64 (.ofNat 16384), .int .i64 (.ofNat 64), .slice none 0 0, .int .i64 (.ofNat 0), .bool false, .bool false, .int .i64 (.ofNat 0)]⟩ 280 (0, 0)),
    (1294, .cells ⟨[.int .i64 (.ofNat 256), .slice none 0 0, .bool false, .int .i64 (.ofNat 0), .int .i64 (.ofNat 0), .int .i64 (.ofNat 0), .slice none 0 0, .slice none 0 0, .slice none 0 0, .int .i64 (.ofNat 0)]⟩ 287 (0, 0)),
    (1325, .cells ⟨[.int .u64 (.ofNat 1000), .int .u64 (.ofNat 60000), .int .u64 (.ofNat 1000), .int .u64 (.ofNat 1000), .int .i64 (.ofNat 0), .bool true]⟩ 267 (0, 0)),
    (1421, .cells ⟨[vp 1332 0]⟩ 63 (0, 0)),
    (1332, .cells ⟨[vp 1331 0, .bool false, .bool false, .int .u64 (.ofNat 0), .int .u64 (.ofNat 0), .int .u64 (.ofNat 0), .int .u64 (.ofNat 0), .int .u64 (.ofNat 0), .int .u64 (.ofNat 0), .int .u64 (.ofNat 0)]⟩ 152 (0, 0)),
    (1331, .cells ⟨[vp 1328 0, .int .i64 (.ofNat 1024), .int .i64 (.ofNat 1048576), .int .u64 (.ofNat 18446744073709551614), .int .u64 (.ofNat 1), .map (some 1329), .map (some 1330), .int .i64 (.ofNat 0), .int .i64 (.ofNat 0), .string ⟨⟨bs []⟩⟩]⟩ 260 (0, 0)),
    (1328, .cells ⟨[.int .u64 (.ofNat 0), .int .u64 (.ofNat 0), .slice none 0 0, .int .i64 (.ofNat 1024)]⟩ 389 (0, 0)),
    (1329, .map ⟨[]⟩ 0),
    (1330, .map ⟨[]⟩ 0),
    (842, .map ⟨[⟨.int .u64 (.ofNat 1), vp 2161 0, 0⟩]⟩ 1),
    (2161, .cells ⟨[vp 2157 0, .int .i64 (.ofNat 0)]⟩ 122 (0, 0)),
    (2157, .cells ⟨[vp 2151 0, .int .i64 (.ofNat 4096), .int .i64 (.ofNat 16384), .int .i64 (.ofNat 64), .int .i64 (.ofNat 65536), .int .u64 (.ofNat 15000), .int .i64 (.ofNat 3), vp 2149 0, .string ⟨⟨bs [71, 69, 84]⟩⟩, vs 3391 0 1 1152921504606846977, .slice none 0 0, .bool true, .bool false, .bool true, .string ⟨⟨bs []⟩⟩, .bool true, vp 2160 0, .int .u64 (.ofNat 15000), .bool true, .bool false]⟩ 187 (0, 0)),
    (2151, .cells ⟨[vs 4017 0 1 1152921504606846977, .int .i64 (.ofNat 1), .int .i64 (.ofNat 0), vp 2150 0, .int .i64 (.ofNat 65536)]⟩ 296 (0, 0)),
    (4017, .cells ⟨[.int .i64 (.ofNat 96)]⟩ 3 (0, 0)),
    (2150, .cells ⟨[vs 3997 0 96 1152921504606847072, .int .i64 (.ofNat 96), .int .i64 (.ofNat 65536), .bool true]⟩ 406 (0, 0)),
    (3997, .cells ⟨[.int .u8 (.ofNat 72), .int .u8 (.ofNat 84), .int .u8 (.ofNat 84), .int .u8 (.ofNat 80), .int .u8 (.ofNat 47), .int .u8 (.ofNat 49), .int .u8 (.ofNat 46), .int .u8 (.ofNat 49), .int .u8 (.ofNat 32), .int .u8 (.ofNat 50), .int .u8 (.ofNat 48), .int .u8 (.ofNat 48), .int .u8 (.ofNat 32), .int .u8 (.ofNat 79), .int .u8 (.ofNat 75), .int .u8 (.ofNat 13), .int .u8 (.ofNat 10), .int .u8 (.ofNat 99), .int .u8 (.ofNat 111), .int .u8 (.ofNat 110), .int .u8 (.ofNat 116), .int .u8 (.ofNat 101), .int .u8 (.ofNat 110), .int .u8 (.ofNat 116), .int .u8 (.ofNat 45), .int .u8 (.ofNat 116), .int .u8 (.ofNat 121), .int .u8 (.ofNat 112), .int .u8 (.ofNat 101), .int .u8 (.ofNat 58), .int .u8 (.ofNat 32), .int .u8 (.ofNat 116), .int .u8 (.ofNat 101), .int .u8 (.ofNat 120), .int .u8 (.ofNat 116), .int .u8 (.ofNat 47), .int .u8 (.ofNat 101), .int .u8 (.ofNat 118), .int .u8 (.ofNat 101), .int .u8 (.ofNat 110), .int .u8 (.ofNat 116), .int .u8 (.ofNat 45), .int .u8 (.ofNat 115), .int .u8 (.ofNat 116), .int .u8 (.ofNat 114), .int .u8 (.ofNat 101), .int .u8 (.ofNat 97), .int .u8 (.ofNat 109), .int .u8 (.ofNat 13), .int .u8 (.ofNat 10), .int .u8 (.ofNat 99), .int .u8 (.ofNat 97), .int .u8 (.ofNat 99), .int .u8 (.ofNat 104), .int .u8 (.ofNat 101), .int .u8 (.ofNat 45), .int .u8 (.ofNat 99), .int .u8 (.ofNat 111), .int .u8 (.ofNat 110), .int .u8 (.ofNat 116), .int .u8 (.ofNat 114), .int .u8 (.ofNat 111), .int .u8 (.ofNat 108), .int .u8 (.ofNat 58), .int .u8 (.ofNat 32), .int .u8 (.ofNat 110), .int .u8 (.ofNat 111), .int .u8 (.ofNat 45), .int .u8 (.ofNat 115), .int .u8 (.ofNat 116), .int .u8 (.ofNat 111), .int .u8 (.ofNat 114), .int .u8 (.ofNat 101), .int .u8 (.ofNat 13), .int .u8 (.ofNat 10), .int .u8 (.ofNat 99), .int .u8 (.ofNat 111), .int .u8 (.ofNat 110), .int .u8 (.ofNat 110), .int .u8 (.ofNat 101), .int .u8 (.ofNat 99), .int .u8 (.ofNat 116), .int .u8 (.ofNat 105), .int .u8 (.ofNat 111), .int .u8 (.ofNat 110), .int .u8 (.ofNat 58), .int .u8 (.ofNat 32), .int .u8 (.ofNat 99), .int .u8 (.ofNat 108), .int .u8 (.ofNat 111), .int .u8 (.ofNat 115), .int .u8 (.ofNat 101), .int .u8 (.ofNat 13), .int .u8 (.ofNat 10), .int .u8 (.ofNat 13), .int .u8 (.ofNat 10)]⟩ 5 (0, 0)),
    (2149, .cells ⟨[.string ⟨⟨bs [71, 69, 84, 32, 47, 97, 32, 72, 84, 84, 80, 47, 49, 46, 48]⟩⟩, .slice none 0 0, .int .i64 (.ofNat 4096), .int .i64 (.ofNat 16384), .int .i64 (.ofNat 64), .slice none 0 0, .int .i64 (.ofNat 19), .bool false, .bool true, .int .i64 (.ofNat 0)]⟩ 280 (0, 0)),
    (3391, .cells ⟨[.string ⟨⟨bs [97]⟩⟩]⟩ 9 (0, 0)),
    (2160, .cells ⟨[.int .u64 (.ofNat 904), .int .u64 (.ofNat 96), .bool false, .bool true]⟩ 302 (0, 0))]
  n1 := 4983

def c5090 : Chk where
  f := 315
  args := [vp 1282 0, vs 1423 0 67 67]
  pre := [(1282, .cells ⟨[.string ⟨⟨bs []⟩⟩, .slice none 0 0, .int .i64 (.ofNat 4096), .int .i64 (.ofNat 16384), .int .i64 (.ofNat 64), .slice none 0 0, .int .i64 (.ofNat 0), .bool false, .bool false, .int .i64 (.ofNat 0)]⟩ 280 (0, 0)),
    (1423, .cells ⟨[.int .u8 (.ofNat 72), .int .u8 (.ofNat 84), .int .u8 (.ofNat 84), .int .u8 (.ofNat 80), .int .u8 (.ofNat 47), .int .u8 (.ofNat 49), .int .u8 (.ofNat 46), .int .u8 (.ofNat 49), .int .u8 (.ofNat 32), .int .u8 (.ofNat 50), .int .u8 (.ofNat 48), .int .u8 (.ofNat 48), .int .u8 (.ofNat 32), .int .u8 (.ofNat 79), .int .u8 (.ofNat 75), .int .u8 (.ofNat 13), .int .u8 (.ofNat 10), .int .u8 (.ofNat 99), .int .u8 (.ofNat 111), .int .u8 (.ofNat 110), .int .u8 (.ofNat 116), .int .u8 (.ofNat 101), .int .u8 (.ofNat 110), .int .u8 (.ofNat 116), .int .u8 (.ofNat 45), .int .u8 (.ofNat 116), .int .u8 (.ofNat 121), .int .u8 (.ofNat 112), .int .u8 (.ofNat 101), .int .u8 (.ofNat 58), .int .u8 (.ofNat 32), .int .u8 (.ofNat 116), .int .u8 (.ofNat 101), .int .u8 (.ofNat 120), .int .u8 (.ofNat 116), .int .u8 (.ofNat 47), .int .u8 (.ofNat 101), .int .u8 (.ofNat 118), .int .u8 (.ofNat 101), .int .u8 (.ofNat 110), .int .u8 (.ofNat 116), .int .u8 (.ofNat 45), .int .u8 (.ofNat 115), .int .u8 (.ofNat 116), .int .u8 (.ofNat 114), .int .u8 (.ofNat 101), .int .u8 (.ofNat 97), .int .u8 (.ofNat 109), .int .u8 (.ofNat 13), .int .u8 (.ofNat 10), .int .u8 (.ofNat 13), .int .u8 (.ofNat 10), .int .u8 (.ofNat 105), .int .u8 (.ofNat 100), .int .u8 (.ofNat 58), .int .u8 (.ofNat 32), .int .u8 (.ofNat 55), .int .u8 (.ofNat 10), .int .u8 (.ofNat 100), .int .u8 (.ofNat 97), .int .u8 (.ofNat 116), .int .u8 (.ofNat 97), .int .u8 (.ofNat 58), .int .u8 (.ofNat 32), .int .u8 (.ofNat 120), .int .u8 (.ofNat 10), .int .u8 (.ofNat 10)]⟩ 5 (0, 1))]
  n0 := 5090
  res := .tuple ⟨[.int .i64 (.ofNat 52), .bool true, .int .i64 (.ofNat 0)]⟩
  post := [(1282, .cells ⟨[.string ⟨⟨bs [72, 84, 84, 80, 47, 49, 46, 49, 32, 50, 48, 48, 32, 79, 75]⟩⟩, vs 8036 0 1 2305843009213693953, .int .i64 (.ofNat 4096), .int .i64 (.ofNat 16384), .int .i64 (.ofNat 64), .slice none 0 0, .int .i64 (.ofNat 52), .bool false, .bool true, .int .i64 (.ofNat 0)]⟩ 280 (0, 0)),
    (8036, .cells ⟨[.string ⟨⟨bs [99, 111, 110, 116, 101, 110, 116, 45, 116, 121, 112, 101]⟩⟩, .string ⟨⟨bs [116, 101, 120, 116, 47, 101, 118, 101, 110, 116, 45, 115, 116, 114, 101, 97, 109]⟩⟩]⟩ 139 (0, 0)),
    (1423, .cells ⟨[.int .u8 (.ofNat 72), .int .u8 (.ofNat 84), .int .u8 (.ofNat 84), .int .u8 (.ofNat 80), .int .u8 (.ofNat 47), .int .u8 (.ofNat 49), .int .u8 (.ofNat 46), .int .u8 (.ofNat 49), .int .u8 (.ofNat 32), .int .u8 (.ofNat 50), .int .u8 (.ofNat 48), .int .u8 (.ofNat 48), .int .u8 (.ofNat 32), .int .u8 (.ofNat 79), .int .u8 (.ofNat 75), .int .u8 (.ofNat 13), .int .u8 (.ofNat 10), .int .u8 (.ofNat 99), .int .u8 (.ofNat 111), .int .u8 (.ofNat 110), .int .u8 (.ofNat 116), .int .u8 (.ofNat 101), .int .u8 (.ofNat 110), .int .u8 (.ofNat 116), .int .u8 (.ofNat 45), .int .u8 (.ofNat 116), .int .u8 (.ofNat 121), .int .u8 (.ofNat 112), .int .u8 (.ofNat 101), .int .u8 (.ofNat 58), .int .u8 (.ofNat 32), .int .u8 (.ofNat 116), .int .u8 (.ofNat 101), .int .u8 (.ofNat 120), .int .u8 (.ofNat 116), .int .u8 (.ofNat 47), .int .u8 (.ofNat 101), .int .u8 (.ofNat 118), .int .u8 (.ofNat 101), .int .u8 (.ofNat 110), .int .u8 (.ofNat 116), .int .u8 (.ofNat 45), .int .u8 (.ofNat 115), .int .u8 (.ofNat 116), .int .u8 (.ofNat 114), .int .u8 (.ofNat 101), .int .u8 (.ofNat 97), .int .u8 (.ofNat 109), .int .u8 (.ofNat 13), .int .u8 (.ofNat 10), .int .u8 (.ofNat 13), .int .u8 (.ofNat 10), .int .u8 (.ofNat 105), .int .u8 (.ofNat 100), .int .u8 (.ofNat 58), .int .u8 (.ofNat 32), .int .u8 (.ofNat 55), .int .u8 (.ofNat 10), .int .u8 (.ofNat 100), .int .u8 (.ofNat 97), .int .u8 (.ofNat 116), .int .u8 (.ofNat 97), .int .u8 (.ofNat 58), .int .u8 (.ofNat 32), .int .u8 (.ofNat 120), .int .u8 (.ofNat 10), .int .u8 (.ofNat 10)]⟩ 5 (0, 1))]
  n1 := 8085

def c8238 : Chk where
  f := 319
  args := [.agg ⟨[.int .i64 (.ofNat 200), .bool true, .bool false, .bool false, .int .u64 (.ofNat 0)]⟩]
  pre := []
  n0 := 8238
  res := .int .i64 (.ofNat 1)
  post := []
  n1 := 8538

def c5074 : Chk where
  f := 202
  args := [vp 1220 0, vp 5072 0]
  pre := [(1220, .cells ⟨[vp 1310 0, .string ⟨⟨bs [47, 117, 112]⟩⟩, .int .i64 (.ofNat 4096), .int .i64 (.ofNat 16384), .int .i64 (.ofNat 64), .int .i64 (.ofNat 256), .int .i64 (.ofNat 16384), .int .i64 (.ofNat 16384), .int .u64 (.ofNat 1000), .int .u64 (.ofNat 60000), .int .u64 (.ofNat 1000), .int .u64 (.ofNat 45000), .int .i64 (.ofNat 3), .int .u64 (.ofNat 45000), vp 1282 0, vp 1294 0, vp 1325 0, .int .i64 (.ofNat 0), .bool false, .bool false, .bool false, .int .u64 (.ofNat 0), .int .u64 (.ofNat 0)]⟩ 161 (0, 0)),
    (1310, .cells ⟨[vp 1309 0, .int .i64 (.ofNat 16384), .int .i64 (.ofNat 16384), .string ⟨⟨bs []⟩⟩, .string ⟨⟨bs []⟩⟩, .slice none 0 0, .bool false, .bool false, .slice none 0 0]⟩ 274 (0, 0)),
    (1309, .cells ⟨[vp 1308 0, .int .i64 (.ofNat 16384), .slice none 0 0, .bool false, .bool false]⟩ 398 (0, 0)),
    (1308, .cells ⟨[.slice none 0 0, .bool true]⟩ 525 (0, 0)),
    (1282, .cells ⟨[.string ⟨⟨bs []⟩⟩, .slice none 0 0, .int .i64 (.ofNat 4096), .int .i64 (.ofNat 16384), .int .i64 (.ofNat 64), .slice none 0 0, .int .i64 (.ofNat 0), .bool false, .bool false, .int .i64 (.ofNat 0)]⟩ 280 (0, 0)),
    (1294, .cells ⟨[.int .i64 (.ofNat 256), .slice none 0 0, .bool false, .int .i64 (.ofNat 0), .int .i64 (.ofNat 0), .int .i64 (.ofNat 0), .slice none 0 0, .slice none 0 0, .slice none 0 0, .int .i64 (.ofNat 0)]⟩ 287 (0, 0)),
    (1325, .cells ⟨[.int .u64 (.ofNat 1000), .int .u64 (.ofNat 60000), .int .u64 (.ofNat 1000), .int .u64 (.ofNat 1000), .int .i64 (.ofNat 0), .bool true]⟩ 267 (0, 0)),
    (5072, .cells ⟨[.slice none 0 0, .int .i64 (.ofNat 0), .int .i64 (.ofNat 0), .bool false, .bool false, vs 1423 0 67 67, .int .u64 (.ofNat 0), .int .u64 (.ofNat 0)]⟩ 370 (0, 0)),
    (1423, .cells ⟨[.int .u8 (.ofNat 72), .int .u8 (.ofNat 84), .int .u8 (.ofNat 84), .int .u8 (.ofNat 80), .int .u8 (.ofNat 47), .int .u8 (.ofNat 49), .int .u8 (.ofNat 46), .int .u8 (.ofNat 49), .int .u8 (.ofNat 32), .int .u8 (.ofNat 50), .int .u8 (.ofNat 48), .int .u8 (.ofNat 48), .int .u8 (.ofNat 32), .int .u8 (.ofNat 79), .int .u8 (.ofNat 75), .int .u8 (.ofNat 13), .int .u8 (.ofNat 10), .int .u8 (.ofNat 99), .int .u8 (.ofNat 111), .int .u8 (.ofNat 110), .int .u8 (.ofNat 116), .int .u8 (.ofNat 101), .int .u8 (.ofNat 110), .int .u8 (.ofNat 116), .int .u8 (.ofNat 45), .int .u8 (.ofNat 116), .int .u8 (.ofNat 121), .int .u8 (.ofNat 112), .int .u8 (.ofNat 101), .int .u8 (.ofNat 58), .int .u8 (.ofNat 32), .int .u8 (.ofNat 116), .int .u8 (.ofNat 101), .int .u8 (.ofNat 120), .int .u8 (.ofNat 116), .int .u8 (.ofNat 47), .int .u8 (.ofNat 101), .int .u8 (.ofNat 118), .int .u8 (.ofNat 101), .int .u8 (.ofNat 110), .int .u8 (.ofNat 116), .int .u8 (.ofNat 45), .int .u8 (.ofNat 115), .int .u8 (.ofNat 116), .int .u8 (.ofNat 114), .int .u8 (.ofNat 101), .int .u8 (.ofNat 97), .int .u8 (.ofNat 109), .int .u8 (.ofNat 13), .int .u8 (.ofNat 10), .int .u8 (.ofNat 13), .int .u8 (.ofNat 10), .int .u8 (.ofNat 105), .int .u8 (.ofNat 100), .int .u8 (.ofNat 58), .int .u8 (.ofNat 32), .int .u8 (.ofNat 55), .int .u8 (.ofNat 10), .int .u8 (.ofNat 100), .int .u8 (.ofNat 97), .int .u8 (.ofNat 116), .int .u8 (.ofNat 97), .int .u8 (.ofNat 58), .int .u8 (.ofNat 32), .int .u8 (.ofNat 120), .int .u8 (.ofNat 10), .int .u8 (.ofNat 10)]⟩ 5 (0, 1))]
  n0 := 5074
  res := .tuple ⟨[]⟩
  post := [(1220, .cells ⟨[vp 1310 0, .string ⟨⟨bs [47, 117, 112]⟩⟩, .int .i64 (.ofNat 4096), .int .i64 (.ofNat 16384), .int .i64 (.ofNat 64), .int .i64 (.ofNat 256), .int .i64 (.ofNat 16384), .int .i64 (.ofNat 16384), .int .u64 (.ofNat 1000), .int .u64 (.ofNat 60000), .int .u64 (.ofNat 1000), .int .u64 (.ofNat 45000), .int .i64 (.ofNat 4), .int .u64 (.ofNat 45000), vp 1282 0, vp 1294 0, vp 1325 0, .int .i64 (.ofNat 200), .bool true, .bool false, .bool false, .int .u64 (.ofNat 0), .int .u64 (.ofNat 0)]⟩ 161 (0, 0)),
    (1310, .cells ⟨[vp 1309 0, .int .i64 (.ofNat 16384), .int .i64 (.ofNat 16384), .string ⟨⟨bs [55]⟩⟩, .string ⟨⟨bs []⟩⟩, .slice none 0 0, .bool false, .bool false, vs 9539 0 1 5764607523034234881]⟩ 274 (0, 0)),
    (1309, .cells ⟨[vp 1308 0, .int .i64 (.ofNat 16384), .slice none 0 0, .bool true, .bool false]⟩ 398 (0, 0)),
    (1308, .cells ⟨[vs 8560 15 0 1152921504606846976, .bool true]⟩ 525 (0, 0)),
    (8560, .cells ⟨[.int .u8 (.ofNat 105), .int .u8 (.ofNat 100), .int .u8 (.ofNat 58), .int .u8 (.ofNat 32), .int .u8 (.ofNat 55), .int .u8 (.ofNat 10), .int .u8 (.ofNat 100), .int .u8 (.ofNat 97), .int .u8 (.ofNat 116), .int .u8 (.ofNat 97), .int .u8 (.ofNat 58), .int .u8 (.ofNat 32), .int .u8 (.ofNat 120), .int .u8 (.ofNat 10), .int .u8 (.ofNat 10)]⟩ 5 (0, 0)),
    (9539, .cells ⟨[.int .i64 (.ofNat 1), .string ⟨⟨bs [55]⟩⟩, .string ⟨⟨bs []⟩⟩, .string ⟨⟨bs [120]⟩⟩, .int .u64 (.ofNat 0)]⟩ 491 (0, 0)),
    (1282, .cells ⟨[.string ⟨⟨bs [72, 84, 84, 80, 47, 49, 46, 49, 32, 50, 48, 48, 32, 79, 75]⟩⟩, vs 8036 0 1 2305843009213693953, .int .i64 (.ofNat 4096), .int .i64 (.ofNat 16384), .int .i64 (.ofNat 64), .slice none 0 0, .int .i64 (.ofNat 52), .bool false, .bool true, .int .i64 (.ofNat 0)]⟩ 280 (0, 0)),
    (8036, .cells ⟨[.string ⟨⟨bs [99, 111, 110, 116, 101, 110, 116, 45, 116, 121, 112, 101]⟩⟩, .string ⟨⟨bs [116, 101, 120, 116, 47, 101, 118, 101, 110, 116, 45, 115, 116, 114, 101, 97, 109]⟩⟩]⟩ 139 (0, 0)),
    (1294, .cells ⟨[.int .i64 (.ofNat 256), .slice none 0 0, .bool false, .int .i64 (.ofNat 0), .int .i64 (.ofNat 0), .int .i64 (.ofNat 0), .slice none 0 0, .slice none 0 0, .slice none 0 0, .int .i64 (.ofNat 0)]⟩ 287 (0, 0)),
    (1325, .cells ⟨[.int .u64 (.ofNat 1000), .int .u64 (.ofNat 60000), .int .u64 (.ofNat 1000), .int .u64 (.ofNat 1000), .int .i64 (.ofNat 0), .bool true]⟩ 267 (0, 0)),
    (5072, .cells ⟨[vs 9547 0 1 3458764513820540929, .int .i64 (.ofNat 0), .int .i64 (.ofNat 0), .bool true, .bool false, vs 1423 52 15 15, .int .u64 (.ofNat 0), .int .u64 (.ofNat 0)]⟩ 370 (0, 0)),
    (9547, .cells ⟨[.string ⟨⟨bs [55]⟩⟩, .string ⟨⟨bs []⟩⟩, .string ⟨⟨bs [120]⟩⟩]⟩ 248 (0, 0)),
    (1423, .cells ⟨[.int .u8 (.ofNat 72), .int .u8 (.ofNat 84), .int .u8 (.ofNat 84), .int .u8 (.ofNat 80), .int .u8 (.ofNat 47), .int .u8 (.ofNat 49), .int .u8 (.ofNat 46), .int .u8 (.ofNat 49), .int .u8 (.ofNat 32), .int .u8 (.ofNat 50), .int .u8 (.ofNat 48), .int .u8 (.ofNat 48), .int .u8 (.ofNat 32), .int .u8 (.ofNat 79), .int .u8 (.ofNat 75), .int .u8 (.ofNat 13), .int .u8 (.ofNat 10), .int .u8 (.ofNat 99), .int .u8 (.ofNat 111), .int .u8 (.ofNat 110), .int .u8 (.ofNat 116), .int .u8 (.ofNat 101), .int .u8 (.ofNat 110), .int .u8 (.ofNat 116), .int .u8 (.ofNat 45), .int .u8 (.ofNat 116), .int .u8 (.ofNat 121), .int .u8 (.ofNat 112), .int .u8 (.ofNat 101), .int .u8 (.ofNat 58), .int .u8 (.ofNat 32), .int .u8 (.ofNat 116), .int .u8 (.ofNat 101), .int .u8 (.ofNat 120), .int .u8 (.ofNat 116), .int .u8 (.ofNat 47), .int .u8 (.ofNat 101), .int .u8 (.ofNat 118), .int .u8 (.ofNat 101), .int .u8 (.ofNat 110), .int .u8 (.ofNat 116), .int .u8 (.ofNat 45), .int .u8 (.ofNat 115), .int .u8 (.ofNat 116), .int .u8 (.ofNat 114), .int .u8 (.ofNat 101), .int .u8 (.ofNat 97), .int .u8 (.ofNat 109), .int .u8 (.ofNat 13), .int .u8 (.ofNat 10), .int .u8 (.ofNat 13), .int .u8 (.ofNat 10), .int .u8 (.ofNat 105), .int .u8 (.ofNat 100), .int .u8 (.ofNat 58), .int .u8 (.ofNat 32), .int .u8 (.ofNat 55), .int .u8 (.ofNat 10), .int .u8 (.ofNat 100), .int .u8 (.ofNat 97), .int .u8 (.ofNat 116), .int .u8 (.ofNat 97), .int .u8 (.ofNat 58), .int .u8 (.ofNat 32), .int .u8 (.ofNat 120), .int .u8 (.ofNat 10), .int .u8 (.ofNat 10)]⟩ 5 (0, 1))]
  n1 := 9549

def c5035 : Chk where
  f := 6
  args := [vp 843 0, .agg ⟨[.int .i64 (.ofNat 8), .int .u64 (.ofNat 0), .int .i64 (.ofNat 0), .int .u64 (.ofNat 0), .int .u64 (.ofNat 0), vs 1423 0 67 67]⟩]
  pre := [(843, .cells ⟨[vp 855 0, .int .i64 (.ofNat 1024), .int .u64 (.ofNat 5000), .int .i64 (.ofNat 4096), .int .i64 (.ofNat 16384), .int .i64 (.ofNat 64), .int .i64 (.ofNat 65536), .int .u64 (.ofNat 15000), .string ⟨⟨bs []⟩⟩, .int .i64 (.ofNat 4096), .int .i64 (.ofNat 16384), .int .i64 (.ofNat 64), .int .i64 (.ofNat 256), .int .i64 (.ofNat 16384), .int .i64 (.ofNat 16384), .int .u64 (.ofNat 1000), .int .u64 (.ofNat 60000), .int .u64 (.ofNat 1000), .int .u64 (.ofNat 45000), .int .i64 (.ofNat 1024), .int .i64 (.ofNat 1048576), .int .u64 (.ofNat 18446744073709551614), vs 841 0 1 2305843009213693953, vs 1420 0 1 1152921504606846977, vs 1421 0 1 1152921504606846977, .map (some 842), .int .u64 (.ofNat 0), .int .u64 (.ofNat 0), .bool false, .bool false, .int .i64 (.ofNat 0), .int .i64 (.ofNat 0), .int .u64 (.ofNat 1), .int .u64 (.ofNat 0), .int .u64 (.ofNat 0), .int .u64 (.ofNat 0), .slice none 0 0]⟩ 52 (0, 0)),
    (855, .cells ⟨[vs 1397 0 1 1152921504606846977, .bool true]⟩ 173 (0, 0)),
    (1397, .cells ⟨[vs 1396 0 1 2305843009213693953]⟩ 169 (0, 0)),
    (1396, .cells ⟨[.int .i64 (.ofNat 1), .string ⟨⟨bs [97]⟩⟩]⟩ 311 (0, 0)),
    (841, .cells ⟨[.string ⟨⟨bs [47, 97]⟩⟩, .string ⟨⟨bs [47, 117, 112]⟩⟩]⟩ 86 (0, 0)),
    (1420, .cells ⟨[vp 1220 0]⟩ 107 (0, 0)),
    (1220, .cells ⟨[vp 1310 0, .string ⟨⟨bs [47, 117, 112]⟩⟩, .int .i64 (.ofNat 4096), .int .i64 (.ofNat 16384), .int .i64 (.ofNat 64), .int .i64 (.ofNat 256), .int .i64 (.ofNat 16384), .int .i64 (.ofNat 16384), .int .u64 (.ofNat 1000), .int .u64 (.ofNat 60000), .int .u64 (.ofNat 1000), .int .u64 (.ofNat 45000), .int .i64 (.ofNat 3), .int .u64 (.ofNat 45000), vp 1282 0, vp 1294 0, vp 1325 0, .int .i64 (.ofNat 0), .bool false, .bool false, .bool false, .int .u64 (.ofNat 0), .int .u64 (.ofNat 0)]⟩ 161 (0, 0)),
    (1310, .cells ⟨[vp 1309 0, .int .i64 (.ofNat 16384), .int .i64 (.ofNat 16384), .string ⟨⟨bs []⟩⟩, .string ⟨⟨bs []⟩⟩, .slice none 0 0, .bool false, .bool false, .slice none 0 0]⟩ 274 (0, 0)),
    (1309, .cells ⟨[vp 1308 0, .int .i64 (.ofNat 16384), .slice none 0 0, .bool false, .bool false]⟩ 398 (0, 0)),
    (1308, .cells ⟨[.slice none 0 0, .bool true]⟩ 525 (0, 0)),
    (1282, .cells ⟨[.string ⟨⟨bs []⟩⟩, .slice none 0 0, .int .i64 (.ofNat 4096), .int .i64 (.ofNat 16384), .int .i64 (.ofNat 64), .slice none 0 0, .int .i64 (.ofNat 0), .bool false, .bool false, .int .i64 (.ofNat 0)]⟩ 280 (0, 0)),
    (1294, .cells ⟨[.int .i64 (.ofNat 256), .slice none 0 0, .bool false, .int .i64 (.ofNat 0), .int .i64 (.ofNat 0), .int .i64 (.ofNat 0), .slice none 0 0, .slice none 0 0, .slice none 0 0, .int .i64 (.ofNat 0)]⟩ 287 (0, 0)),
    (1325, .cells ⟨[.int .u64 (.ofNat 1000), .int .u64 (.ofNat 60000), .int .u64 (.ofNat 1000), .int .u64 (.ofNat 1000), .int .i64 (.ofNat 0), .bool true]⟩ 267 (0, 0)),
    (1421, .cells ⟨[vp 1332 0]⟩ 63 (0, 0)),
    (1332, .cells ⟨[vp 1331 0, .bool false, .bool false, .int .u64 (.ofNat 0), .int .u64 (.ofNat 0), .int .u64 (.ofNat 0), .int .u64 (.ofNat 0), .int .u64 (.ofNat 0), .int .u64 (.ofNat 0), .int .u64 (.ofNat 0)]⟩ 152 (0, 0)),
    (1331, .cells ⟨[vp 1328 0, .int .i64 (.ofNat 1024), .int .i64 (.ofNat 1048576), .int .u64 (.ofNat 18446744073709551614), .int .u64 (.ofNat 1), .map (some 1329), .map (some 1330), .int .i64 (.ofNat 0), .int .i64 (.ofNat 0), .string ⟨⟨bs []⟩⟩]⟩ 260 (0, 0)),
    (1328, .cells ⟨[.int .u64 (.ofNat 0), .int .u64 (.ofNat 0), .slice none 0 0, .int .i64 (.ofNat 1024)]⟩ 389 (0, 0)),
    (1329, .map ⟨[]⟩ 0),
    (1330, .map ⟨[]⟩ 0),
    (842, .map ⟨[⟨.int .u64 (.ofNat 1), vp 2161 0, 0⟩]⟩ 1),
    (2161, .cells ⟨[vp 2157 0, .int .i64 (.ofNat 0)]⟩ 122 (0, 0)),
    (2157, .cells ⟨[vp 2151 0, .int .i64 (.ofNat 4096), .int .i64 (.ofNat 16384), .int .i64 (.ofNat 64), .int .i64 (.ofNat 65536), .int .u64 (.ofNat 15000), .int .i64 (.ofNat 3), vp 2149 0, .string ⟨⟨bs [71, 69, 84]⟩⟩, vs 3391 0 1 1152921504606846977, .slice none 0 0, .bool true, .bool false, .bool true, .string ⟨⟨bs []⟩⟩, .bool true, vp 2160 0, .int .u64 (.ofNat 15000), .bool true, .bool false]⟩ 187 (0, 0)),
    (2151, .cells ⟨[vs 4017 0 1 1152921504606846977, .int .i64 (.ofNat 1), .int .i64 (.ofNat 0), vp 2150 0, .int .i64 (.ofNat 65536)]⟩ 296 (0, 0)),
    (4017, .cells ⟨[.int .i64 (.ofNat 96)]⟩ 3 (0, 0)),
    (2150, .cells ⟨[vs 3997 0 96 1152921504606847072, .int .i64 (.ofNat 96), .int .i64 (.ofNat 65536), .bool true]⟩ 406 (0, 0)),
    (3997, .cells ⟨[.int .u8 (.ofNat 72), .int .u8 (.ofNat 84), .int .u8 (.ofNat 84), .int .u8 (.ofNat 80), .int .u8 (.ofNat 47), .int .u8 (.ofNat 49), .int .u8 (.ofNat 46), .int .u8 (.ofNat 49), .int .u8 (.ofNat 32), .int .u8 (.ofNat 50), .int .u8 (.ofNat 48), .int .u8 (.ofNat 48), .int .u8 (.ofNat 32), .int .u8 (.ofNat 79), .int .u8 (.ofNat 75), .int .u8 (.ofNat 13), .int .u8 (.ofNat 10), .int .u8 (.ofNat 99), .int .u8 (.ofNat 111), .int .u8 (.ofNat 110), .int .u8 (.ofNat 116), .int .u8 (.ofNat 101), .int .u8 (.ofNat 110), .int .u8 (.ofNat 116), .int .u8 (.ofNat 45), .int .u8 (.ofNat 116), .int .u8 (.ofNat 121), .int .u8 (.ofNat 112), .int .u8 (.ofNat 101), .int .u8 (.ofNat 58), .int .u8 (.ofNat 32), .int .u8 (.ofNat 116), .int .u8 (.ofNat 101), .int .u8 (.ofNat 120), .int .u8 (.ofNat 116), .int .u8 (.ofNat 47), .int .u8 (.ofNat 101), .int .u8 (.ofNat 118), .int .u8 (.ofNat 101), .int .u8 (.ofNat 110), .int .u8 (.ofNat 116), .int .u8 (.ofNat 45), .int .u8 (.ofNat 115), .int .u8 (.ofNat 116), .int .u8 (.ofNat 114), .int .u8 (.ofNat 101), .int .u8 (.ofNat 97), .int .u8 (.ofNat 109), .int .u8 (.ofNat 13), .int .u8 (.ofNat 10), .int .u8 (.ofNat 99), .int .u8 (.ofNat 97), .int .u8 (.ofNat 99), .int .u8 (.ofNat 104), .int .u8 (.ofNat 101), .int .u8 (.ofNat 45), .int .u8 (.ofNat 99), .int .u8 (.ofNat 111), .int .u8 (.ofNat 110), .int .u8 (.ofNat 116), .int .u8 (.ofNat 114), .int .u8 (.ofNat 111), .int .u8 (.ofNat 108), .int .u8 (.ofNat 58), .int .u8 (.ofNat 32), .int .u8 (.ofNat 110), .int .u8 (.ofNat 111), .int .u8 (.ofNat 45), .int .u8 (.ofNat 115), .int .u8 (.ofNat 116), .int .u8 (.ofNat 111), .int .u8 (.ofNat 114), .int .u8 (.ofNat 101), .int .u8 (.ofNat 13), .int .u8 (.ofNat 10), .int .u8 (.ofNat 99), .int .u8 (.ofNat 111), .int .u8 (.ofNat 110), .int .u8 (.ofNat 110), .int .u8 (.ofNat 101), .int .u8 (.ofNat 99), .int .u8 (.ofNat 116), .int .u8 (.ofNat 105), .int .u8 (.ofNat 111), .int .u8 (.ofNat 110), .int .u8 (.ofNat 58), .int .u8 (.ofNat 32), .int .u8 (.ofNat 99), .int .u8 (.ofNat 108), .int .u8 (.ofNat 111), .int .u8 (.ofNat 115), .int .u8 (.ofNat 101), .int .u8 (.ofNat 13), .int .u8 (.ofNat 10), .int .u8 (.ofNat 13), .int .u8 (.ofNat 10)]⟩ 5 (0, 0)),
    (2149, .cells ⟨[.string ⟨⟨bs [71, 69, 84, 32, 47, 97, 32, 72, 84, 84, 80, 47, 49, 46, 48]⟩⟩, .slice none 0 0, .int .i64 (.ofNat 4096), .int .i64 (.ofNat 16384), .int .i64 (.ofNat 64), .slice none 0 0, .int .i64 (.ofNat 19), .bool false, .bool true, .int .i64 (.ofNat 0)]⟩ 280 (0, 0)),
    (3391, .cells ⟨[.string ⟨⟨bs [97]⟩⟩]⟩ 9 (0, 0)),
    (2160, .cells ⟨[.int .u64 (.ofNat 904), .int .u64 (.ofNat 96), .bool false, .bool true]⟩ 302 (0, 0)),
    (1423, .cells ⟨[.int .u8 (.ofNat 72), .int .u8 (.ofNat 84), .int .u8 (.ofNat 84), .int .u8 (.ofNat 80), .int .u8 (.ofNat 47), .int .u8 (.ofNat 49), .int .u8 (.ofNat 46), .int .u8 (.ofNat 49), .int .u8 (.ofNat 32), .int .u8 (.ofNat 50), .int .u8 (.ofNat 48), .int .u8 (.ofNat 48), .int .u8 (.ofNat 32), .int .u8 (.ofNat 79), .int .u8 (.ofNat 75), .int .u8 (.ofNat 13), .int .u8 (.ofNat 10), .int .u8 (.ofNat 99), .int .u8 (.ofNat 111), .int .u8 (.ofNat 110), .int .u8 (.ofNat 116), .int .u8 (.ofNat 101), .int .u8 (.ofNat 110), .int .u8 (.ofNat 116), .int .u8 (.ofNat 45), .int .u8 (.ofNat 116), .int .u8 (.ofNat 121), .int .u8 (.ofNat 112), .int .u8 (.ofNat 101), .int .u8 (.ofNat 58), .int .u8 (.ofNat 32), .int .u8 (.ofNat 116), .int .u8 (.ofNat 101), .int .u8 (.ofNat 120), .int .u8 (.ofNat 116), .int .u8 (.ofNat 47), .int .u8 (.ofNat 101), .int .u8 (.ofNat 118), .int .u8 (.ofNat 101), .int .u8 (.ofNat 110), .int .u8 (.ofNat 116), .int .u8 (.ofNat 45), .int .u8 (.ofNat 115), .int .u8 (.ofNat 116), .int .u8 (.ofNat 114), .int .u8 (.ofNat 101), .int .u8 (.ofNat 97), .int .u8 (.ofNat 109), .int .u8 (.ofNat 13), .int .u8 (.ofNat 10), .int .u8 (.ofNat 13), .int .u8 (.ofNat 10), .int .u8 (.ofNat 105), .int .u8 (.ofNat 100), .int .u8 (.ofNat 58), .int .u8 (.ofNat 32), .int .u8 (.ofNat 55), .int .u8 (.ofNat 10), .int .u8 (.ofNat 100), .int .u8 (.ofNat 97), .int .u8 (.ofNat 116), .int .u8 (.ofNat 97), .int .u8 (.ofNat 58), .int .u8 (.ofNat 32), .int .u8 (.ofNat 120), .int .u8 (.ofNat 10), .int .u8 (.ofNat 10)]⟩ 5 (0, 1))]
  n0 := 5035
  res := .tuple ⟨[vs 11077 0 1 4611686018427387905, .int .i64 (.ofNat 0)]⟩
  post := [(11077, .cells ⟨[.int .i64 (.ofNat 2), .int .u64 (.ofNat 1), .int .i64 (.ofNat 0), vs 10953 0 15 1152921504606846991]⟩ 91 (0, 0)),
    (10953, .cells ⟨[.int .u8 (.ofNat 105), .int .u8 (.ofNat 100), .int .u8 (.ofNat 58), .int .u8 (.ofNat 32), .int .u8 (.ofNat 55), .int .u8 (.ofNat 10), .int .u8 (.ofNat 100), .int .u8 (.ofNat 97), .int .u8 (.ofNat 116), .int .u8 (.ofNat 97), .int .u8 (.ofNat 58), .int .u8 (.ofNat 32), .int .u8 (.ofNat 120), .int .u8 (.ofNat 10), .int .u8 (.ofNat 10)]⟩ 5 (0, 0)),
    (843, .cells ⟨[vp 855 0, .int .i64 (.ofNat 1024), .int .u64 (.ofNat 5000), .int .i64 (.ofNat 4096), .int .i64 (.ofNat 16384), .int .i64 (.ofNat 64), .int .i64 (.ofNat 65536), .int .u64 (.ofNat 15000), .string ⟨⟨bs []⟩⟩, .int .i64 (.ofNat 4096), .int .i64 (.ofNat 16384), .int .i64 (.ofNat 64), .int .i64 (.ofNat 256), .int .i64 (.ofNat 16384), .int .i64 (.ofNat 16384), .int .u64 (.ofNat 1000), .int .u64 (.ofNat 60000), .int .u64 (.ofNat 1000), .int .u64 (.ofNat 45000), .int .i64 (.ofNat 1024), .int .i64 (.ofNat 1048576), .int .u64 (.ofNat 18446744073709551614), vs 841 0 1 2305843009213693953, vs 1420 0 1 1152921504606846977, vs 1421 0 1 1152921504606846977, .map (some 842), .int .u64 (.ofNat 0), .int .u64 (.ofNat 0), .bool false, .bool false, .int .i64 (.ofNat 0), .int .i64 (.ofNat 0), .int .u64 (.ofNat 1), .int .u64 (.ofNat 0), .int .u64 (.ofNat 0), .int .u64 (.ofNat 0), .slice none 0 0]⟩ 52 (0, 0)),
    (855, .cells ⟨[vs 1397 0 1 1152921504606846977, .bool true]⟩ 173 (0, 0)),
    (1397, .cells ⟨[vs 1396 0 1 2305843009213693953]⟩ 169 (0, 0)),
    (1396, .cells ⟨[.int .i64 (.ofNat 1), .string ⟨⟨bs [97]⟩⟩]⟩ 311 (0, 0)),
    (841, .cells ⟨[.string ⟨⟨bs [47, 97]⟩⟩, .string ⟨⟨bs [47, 117, 112]⟩⟩]⟩ 86 (0, 0)),
    (1420, .cells ⟨[vp 1220 0]⟩ 107 (0, 0)),
    (1220, .cells ⟨[vp 1310 0, .string ⟨⟨bs [47, 117, 112]⟩⟩, .int .i64 (.ofNat 4096), .int .i64 (.ofNat 16384), .int .i64 (.ofNat 64), .int .i64 (.ofNat 256), .int .i64 (.ofNat 16384), .int .i64 (.ofNat 16384), .int .u64 (.ofNat 1000), .int .u64 (.ofNat 60000), .int .u64 (.ofNat 1000), .int .u64 (.ofNat 45000), .int .i64 (.ofNat 4), .int .u64 (.ofNat 45000), vp 1282 0, vp 1294 0, vp 1325 0, .int .i64 (.ofNat 200), .bool true, .bool false, .bool false, .int .u64 (.ofNat 0), .int .u64 (.ofNat 0)]⟩ 161 (0, 0)),
    (1310, .cells ⟨[vp 1309 0, .int .i64 (.ofNat 16384), .int .i64 (.ofNat 16384), .string ⟨⟨bs [55]⟩⟩, .string ⟨⟨bs []⟩⟩, .slice none 0 0, .bool false, .bool false, vs 9539 0 1 5764607523034234881]⟩ 274 (0, 0)),
    (1309, .cells ⟨[vp 1308 0, .int .i64 (.ofNat 16384), .slice none 0 0, .bool true, .bool false]⟩ 398 (0, 0)),
    (1308, .cells ⟨[vs 8560 15 0 1152921504606846976, .bool true]⟩ 525 (0, 0)),
    (8560, .cells ⟨[.int .u8 (.ofNat 105), .int .u8 (.ofNat 100), .int .u8 (.ofNat 58), .int .u8 (.ofNat 32), .int .u8 (.ofNat 55), .int .u8 (.ofNat 10), .int .u8 (.ofNat 100), .int .u8 (.ofNat 97), .int .u8 (.ofNat 116), .int .u8 (.ofNat 97), .int .u8 (.ofNat 58), .int .u8 (.ofNat 32), .int .u8 (.ofNat 120), .int .u8 (.ofNat 10), .int .u8 (.ofNat 10)]⟩ 5 (0, 0)),
    (9539, .cells ⟨[.int .i64 (.ofNat 1), .string ⟨⟨bs [55]⟩⟩, .string ⟨⟨bs []⟩⟩, .string ⟨⟨bs [120]⟩⟩, .int .u64 (.ofNat 0)]⟩ 491 (0, 0)),
    (1282, .cells ⟨[.string ⟨⟨bs [72, 84, 84, 80, 47, 49, 46, 49, 32, 50, 48, 48, 32, 79, 75]⟩⟩, vs 8036 0 1 2305843009213693953, .int .i64 (.ofNat 4096), .int .i64 (.ofNat 16384), .int .i64 (.ofNat 64), .slice none 0 0, .int .i64 (.ofNat 52), .bool false, .bool true, .int .i64 (.ofNat 0)]⟩ 280 (0, 0)),
    (8036, .cells ⟨[.string ⟨⟨bs [99, 111, 110, 116, 101, 110, 116, 45, 116, 121, 112, 101]⟩⟩, .string ⟨⟨bs [116, 101, 120, 116, 47, 101, 118, 101, 110, 116, 45, 115, 116, 114, 101, 97, 109]⟩⟩]⟩ 139 (0, 0)),
    (1294, .cells ⟨[.int .i64 (.ofNat 256), .slice none 0 0, .bool false, .int .i64 (.ofNat 0), .int .i64 (.ofNat 0), .int .i64 (.ofNat 0), .slice none 0 0, .slice none 0 0, .slice none 0 0, .int .i64 (.ofNat 0)]⟩ 287 (0, 0)),
    (1325, .cells ⟨[.int .u64 (.ofNat 1000), .int .u64 (.ofNat 60000), .int .u64 (.ofNat 1000), .int .u64 (.ofNat 1000), .int .i64 (.ofNat 0), .bool true]⟩ 267 (0, 0)),
    (1421, .cells ⟨[vp 1332 0]⟩ 63 (0, 0)),
    (1332, .cells ⟨[vp 1331 0, .bool false, .bool false, .int .u64 (.ofNat 0), .int .u64 (.ofNat 0), .int .u64 (.ofNat 0), .int .u64 (.ofNat 0), .int .u64 (.ofNat 1), .int .u64 (.ofNat 0), .int .u64 (.ofNat 0)]⟩ 152 (0, 0)),
    (1331, .cells ⟨[vp 1328 0, .int .i64 (.ofNat 1024), .int .i64 (.ofNat 1048576), .int .u64 (.ofNat 18446744073709551614), .int .u64 (.ofNat 1), .map (some 1329), .map (some 1330), .int .i64 (.ofNat 15), .int .i64 (.ofNat 1), .string ⟨⟨bs []⟩⟩]⟩ 260 (0, 0)),
    (1328, .cells ⟨[.int .u64 (.ofNat 0), .int .u64 (.ofNat 1), vs 10231 0 1 1152921504606846977, .int .i64 (.ofNat 1024)]⟩ 389 (0, 0)),
    (10231, .cells ⟨[.int .i64 (.ofNat 1)]⟩ 3 (0, 0)),
    (1329, .map ⟨[⟨.int .i64 (.ofNat 1), .agg ⟨[.string ⟨⟨bs [55]⟩⟩, .string ⟨⟨bs []⟩⟩, .string ⟨⟨bs [120]⟩⟩, .int .i64 (.ofNat 15)]⟩, 0⟩]⟩ 1),
    (1330, .map ⟨[⟨.string ⟨⟨bs [55]⟩⟩, .int .u64 (.ofNat 0), 0⟩]⟩ 1),
    (842, .map ⟨[⟨.int .u64 (.ofNat 1), vp 2161 0, 0⟩]⟩ 1),
    (2161, .cells ⟨[vp 2157 0, .int .i64 (.ofNat 0)]⟩ 122 (0, 0)),
    (2157, .cells ⟨[vp 2151 0, .int .i64 (.ofNat 4096), .int .i64 (.ofNat 16384), .int .i64 (.ofNat 64), .int .i64 (.ofNat 65536), .int .u64 (.ofNat 15000), .int .i64 (.ofNat 3), vp 2149 0, .string ⟨⟨bs [71, 69, 84]⟩⟩, vs 3391 0 1 1152921504606846977, .slice none 0 0, .bool true, .bool false, .bool true, .string ⟨⟨bs []⟩⟩, .bool true, vp 2160 0, .int .u64 (.ofNat 15000), .bool true, .bool false]⟩ 187 (0, 0)),
    (2151, .cells ⟨[vs 4017 0 1 1152921504606846977, .int .i64 (.ofNat 1), .int .i64 (.ofNat 0), vp 2150 0, .int .i64 (.ofNat 65536)]⟩ 296 (0, 0)),
    (4017, .cells ⟨[.int .i64 (.ofNat 15)]⟩ 3 (0, 0)),
    (2150, .cells ⟨[vs 3997 0 15 1152921504606847072, .int .i64 (.ofNat 15), .int .i64 (.ofNat 65536), .bool true]⟩ 406 (0, 0)),
    (3997, .cells ⟨[.int .u8 (.ofNat 105), .int .u8 (.ofNat 100), .int .u8 (.ofNat 58), .int .u8 (.ofNat 32), .int .u8 (.ofNat 55), .int .u8 (.ofNat 10), .int .u8 (.ofNat 100), .int .u8 (.ofNat 97), .int .u8 (.ofNat 116), .int .u8 (.ofNat 97), .int .u8 (.ofNat 58), .int .u8 (.ofNat 32), .int .u8 (.ofNat 120), .int .u8 (.ofNat 10), .int .u8 (.ofNat 10), .int .u8 (.ofNat 13), .int .u8 (.ofNat 10), .int .u8 (.ofNat 99), .int .u8 (.ofNat 111), .int .u8 (.ofNat 110), .int .u8 (.ofNat 116), .int .u8 (.ofNat 101), .int .u8 (.ofNat 110), .int .u8 (.ofNat 116), .int .u8 (.ofNat 45), .int .u8 (.ofNat 116), .int .u8 (.ofNat 121), .int .u8 (.ofNat 112), .int .u8 (.ofNat 101), .int .u8 (.ofNat 58), .int .u8 (.ofNat 32), .int .u8 (.ofNat 116), .int .u8 (.ofNat 101), .int .u8 (.ofNat 120), .int .u8 (.ofNat 116), .int .u8 (.ofNat 47), .int .u8 (.ofNat 101), .int .u8 (.ofNat 118), .int .u8 (.ofNat 101), .int .u8 (.ofNat 110), .int .u8 (.ofNat 116), .int .u8 (.ofNat 45), .int .u8 (.ofNat 115), .int .u8 (.ofNat 116), .int .u8 (.ofNat 114), .int .u8 (.ofNat 101), .int .u8 (.ofNat 97), .int .u8 (.ofNat 109), .int .u8 (.ofNat 13), .int .u8 (.ofNat 10), .int .u8 (.ofNat 99), .int .u8 (.ofNat 97), .int .u8 (.ofNat 99), .int .u8 (.ofNat 104), .int .u8 (.ofNat 101), .int .u8 (.ofNat 45), .int .u8 (.ofNat 99), .int .u8 (.ofNat 111), .int .u8 (.ofNat 110), .int .u8 (.ofNat 116), .int .u8 (.ofNat 114), .int .u8 (.ofNat 111), .int .u8 (.ofNat 108), .int .u8 (.ofNat 58), .int .u8 (.ofNat 32), .int .u8 (.ofNat 110), .int .u8 (.ofNat 111), .int .u8 (.ofNat 45), .int .u8 (.ofNat 115), .int .u8 (.ofNat 116), .int .u8 (.ofNat 111), .int .u8 (.ofNat 114), .int .u8 (.ofNat 101), .int .u8 (.ofNat 13), .int .u8 (.ofNat 10), .int .u8 (.ofNat 99), .int .u8 (.ofNat 111), .int .u8 (.ofNat 110), .int .u8 (.ofNat 110), .int .u8 (.ofNat 101), .int .u8 (.ofNat 99), .int .u8 (.ofNat 116), .int .u8 (.ofNat 105), .int .u8 (.ofNat 111), .int .u8 (.ofNat 110), .int .u8 (.ofNat 58), .int .u8 (.ofNat 32), .int .u8 (.ofNat 99), .int .u8 (.ofNat 108), .int .u8 (.ofNat 111), .int .u8 (.ofNat 115), .int .u8 (.ofNat 101), .int .u8 (.ofNat 13), .int .u8 (.ofNat 10), .int .u8 (.ofNat 13), .int .u8 (.ofNat 10)]⟩ 5 (0, 0)),
    (2149, .cells ⟨[.string ⟨⟨bs [71, 69, 84, 32, 47, 97, 32, 72, 84, 84, 80, 47, 49, 46, 48]⟩⟩, .slice none 0 0, .int .i64 (.ofNat 4096), .int .i64 (.ofNat 16384), .int .i64 (.ofNat 64), .slice none 0 0, .int .i64 (.ofNat 19), .bool false, .bool true, .int .i64 (.ofNat 0)]⟩ 280 (0, 0)),
    (3391, .cells ⟨[.string ⟨⟨bs [97]⟩⟩]⟩ 9 (0, 0)),
    (2160, .cells ⟨[.int .u64 (.ofNat 889), .int .u64 (.ofNat 111), .bool false, .bool true]⟩ 302 (0, 0)),
    (1423, .cells ⟨[.int .u8 (.ofNat 72), .int .u8 (.ofNat 84), .int .u8 (.ofNat 84), .int .u8 (.ofNat 80), .int .u8 (.ofNat 47), .int .u8 (.ofNat 49), .int .u8 (.ofNat 46), .int .u8 (.ofNat 49), .int .u8 (.ofNat 32), .int .u8 (.ofNat 50), .int .u8 (.ofNat 48), .int .u8 (.ofNat 48), .int .u8 (.ofNat 32), .int .u8 (.ofNat 79), .int .u8 (.ofNat 75), .int .u8 (.ofNat 13), .int .u8 (.ofNat 10), .int .u8 (.ofNat 99), .int .u8 (.ofNat 111), .int .u8 (.ofNat 110), .int .u8 (.ofNat 116), .int .u8 (.ofNat 101), .int .u8 (.ofNat 110), .int .u8 (.ofNat 116), .int .u8 (.ofNat 45), .int .u8 (.ofNat 116), .int .u8 (.ofNat 121), .int .u8 (.ofNat 112), .int .u8 (.ofNat 101), .int .u8 (.ofNat 58), .int .u8 (.ofNat 32), .int .u8 (.ofNat 116), .int .u8 (.ofNat 101), .int .u8 (.ofNat 120), .int .u8 (.ofNat 116), .int .u8 (.ofNat 47), .int .u8 (.ofNat 101), .int .u8 (.ofNat 118), .int .u8 (.ofNat 101), .int .u8 (.ofNat 110), .int .u8 (.ofNat 116), .int .u8 (.ofNat 45), .int .u8 (.ofNat 115), .int .u8 (.ofNat 116), .int .u8 (.ofNat 114), .int .u8 (.ofNat 101), .int .u8 (.ofNat 97), .int .u8 (.ofNat 109), .int .u8 (.ofNat 13), .int .u8 (.ofNat 10), .int .u8 (.ofNat 13), .int .u8 (.ofNat 10), .int .u8 (.ofNat 105), .int .u8 (.ofNat 100), .int .u8 (.ofNat 58), .int .u8 (.ofNat 32), .int .u8 (.ofNat 55), .int .u8 (.ofNat 10), .int .u8 (.ofNat 100), .int .u8 (.ofNat 97), .int .u8 (.ofNat 116), .int .u8 (.ofNat 97), .int .u8 (.ofNat 58), .int .u8 (.ofNat 32), .int .u8 (.ofNat 120), .int .u8 (.ofNat 10), .int .u8 (.ofNat 10)]⟩ 5 (0, 1))]
  n1 := 11166

def c11348 : Chk where
  f := 388
  args := [.slice none 0 0, .int .i64 (.ofNat 0), vs 11343 0 1 1]
  pre := [(11343, .cells ⟨[.int .i64 (.ofNat 2), .int .u64 (.ofNat 0), .int .u64 (.ofNat 45000)]⟩ 343 (0, 0))]
  n0 := 11348
  res := vs 11348 0 1 3458764513820540929
  post := [(11348, .cells ⟨[.int .i64 (.ofNat 2), .int .u64 (.ofNat 0), .int .u64 (.ofNat 45000)]⟩ 343 (0, 0)),
    (11343, .cells ⟨[.int .i64 (.ofNat 2), .int .u64 (.ofNat 0), .int .u64 (.ofNat 45000)]⟩ 343 (0, 0))]
  n1 := 11349

def c11613 : Chk where
  f := 388
  args := [vs 11348 0 1 3458764513820540929, .int .i64 (.ofNat 0), vs 11608 0 1 1]
  pre := [(11348, .cells ⟨[.int .i64 (.ofNat 2), .int .u64 (.ofNat 0), .int .u64 (.ofNat 45000)]⟩ 343 (0, 0)),
    (11608, .cells ⟨[.int .i64 (.ofNat 3), .int .u64 (.ofNat 1), .int .u64 (.ofNat 15000)]⟩ 343 (0, 0))]
  n0 := 11613
  res := vs 12613 0 2 3458764513820540930
  post := [(12613, .cells ⟨[.int .i64 (.ofNat 3), .int .u64 (.ofNat 1), .int .u64 (.ofNat 15000), .int .i64 (.ofNat 2), .int .u64 (.ofNat 0), .int .u64 (.ofNat 45000)]⟩ 343 (1, 0))]
  n1 := 12614

def c11218 : Chk where
  f := 6
  args := [vp 843 0, .agg ⟨[.int .i64 (.ofNat 1), .int .u64 (.ofNat 0), .int .i64 (.ofNat 0), .int .u64 (.ofNat 15000), .int .u64 (.ofNat 0), .slice none 0 0]⟩]
  pre := [(843, .cells ⟨[vp 855 0, .int .i64 (.ofNat 1024), .int .u64 (.ofNat 5000), .int .i64 (.ofNat 4096), .int .i64 (.ofNat 16384), .int .i64 (.ofNat 64), .int .i64 (.ofNat 65536), .int .u64 (.ofNat 15000), .string ⟨⟨bs []⟩⟩, .int .i64 (.ofNat 4096), .int .i64 (.ofNat 16384), .int .i64 (.ofNat 64), .int .i64 (.ofNat 256), .int .i64 (.ofNat 16384), .int .i64 (.ofNat 16384), .int .u64 (.ofNat 1000), .int .u64 (.ofNat 60000), .int .u64 (.ofNat 1000), .int .u64 (.ofNat 45000), .int .i64 (.ofNat 1024), .int .i64 (.ofNat 1048576), .int .u64 (.ofNat 18446744073709551614), vs 841 0 1 2305843009213693953, vs 1420 0 1 1152921504606846977, vs 1421 0 1 1152921504606846977, .map (some 842), .int .u64 (.ofNat 0), .int .u64 (.ofNat 0), .bool false, .bool false, .int .i64 (.ofNat 0), .int .i64 (.ofNat 0), .int .u64 (.ofNat 1), .int .u64 (.ofNat 0), .int .u64 (.ofNat 0), .int .u64 (.ofNat 0), .slice none 0 0]⟩ 52 (0, 0)),
    (855, .cells ⟨[vs 1397 0 1 1152921504606846977, .bool true]⟩ 173 (0, 0)),
    (1397, .cells ⟨[vs 1396 0 1 2305843009213693953]⟩ 169 (0, 0)),
    (1396, .cells ⟨[.int .i64 (.ofNat 1), .string ⟨⟨bs [97]⟩⟩]⟩ 311 (0, 0)),
    (841, .cells ⟨[.string ⟨⟨bs [47, 97]⟩⟩, .string ⟨⟨bs [47, 117, 112]⟩⟩]⟩ 86 (0, 0)),
    (1420, .cells ⟨[vp 1220 0]⟩ 107 (0, 0)),
    (1220, .cells ⟨[vp 1310 0, .string ⟨⟨bs [47, 117, 112]⟩⟩, .int .i64 (.ofNat 4096), .int .i64 (.ofNat 16384), .int .i64 (.ofNat 64), .int .i64 (.ofNat 256), .int .i64 (.ofNat 16384), .int .i64 (.ofNat 16384), .int .u64 (.ofNat 1000), .int .u64 (.ofNat 60000), .int .u64 (.ofNat 1000), .int .u64 (.ofNat 45000), .int .i64 (.ofNat 4), .int .u64 (.ofNat 45000), vp 1282 0, vp 1294 0, vp 1325 0, .int .i64 (.ofNat 200), .bool true, .bool false, .bool false, .int .u64 (.ofNat 0), .int .u64 (.ofNat 0)]⟩ 161 (0, 0)),
    (1310, .cells ⟨[vp 1309 0, .int .i64 (.ofNat 16384), .int .i64 (.ofNat 16384), .string ⟨⟨bs [55]⟩⟩, .string ⟨⟨bs []⟩⟩, .slice none 0 0, .bool false, .bool false, vs 9539 0 1 5764607523034234881]⟩ 274 (0, 0)),
    (1309, .cells ⟨[vp 1308 0, .int .i64 (.ofNat 16384), .slice none 0 0, .bool true, .bool false]⟩ 398 (0, 0)),
    (1308, .cells ⟨[vs 8560 15 0 1152921504606846976, .bool true]⟩ 525 (0, 0)),
    (8560, .cells ⟨[.int .u8 (.ofNat 105), .int .u8 (.ofNat 100), .int .u8 (.ofNat 58), .int .u8 (.ofNat 32), .int .u8 (.ofNat 55), .int .u8 (.ofNat 10), .int .u8 (.ofNat 100), .int .u8 (.ofNat 97), .int .u8 (.ofNat 116), .int .u8 (.ofNat 97), .int .u8 (.ofNat 58), .int .u8 (.ofNat 32), .int .u8 (.ofNat 120), .int .u8 (.ofNat 10), .int .u8 (.ofNat 10)]⟩ 5 (0, 0)),
    (9539, .cells ⟨[.int .i64 (.ofNat 1), .string ⟨⟨bs [55]⟩⟩, .string ⟨⟨bs []⟩⟩, .string ⟨⟨bs [120]⟩⟩, .int .u64 (.ofNat 0)]⟩ 491 (0, 0)),
    (1282, .cells ⟨[.string ⟨⟨bs [72, 84, 84, 80, 47, 49, 46, 49, 32, 50, 48, 48, 32, 79, 75]⟩⟩, vs 8036 0 1 2305843009213693953, .int .i64 (.ofNat 4096), .int .i64 (.ofNat 16384), .int .i64 (.ofNat 64), .slice none 0 0, .int .i64 (.ofNat 52), .bool false, .bool true, .int .i64 (.ofNat 0)]⟩ 280 (0, 0)),
    (8036, .cells ⟨[.string ⟨⟨bs [99, 111, 110, 116, 101, 110, 116, 45, 116, 121, 112, 101]⟩⟩, .string ⟨⟨bs [116, 101, 120, 116, 47, 101, 118, 101, 110, 116, 45, 115, 116, 114, 101, 97, 109]⟩⟩]⟩ 139 (0, 0)),
    (1294, .cells ⟨[.int .i64 (.ofNat 256), .slice none 0 0, .bool false, .int .i64 (.ofNat 0), .int .i64 (.ofNat 0), .int .i64 (.ofNat 0), .slice none 0 0, .slice none 0 0, .slice none 0 0, .int .i64 (.ofNat 0)]⟩ 287 (0, 0)),
    (1325, .cells ⟨[.int .u64 (.ofNat 1000), .int .u64 (.ofNat 60000), .int .u64 (.ofNat 1000), .int .u64 (.ofNat 1000), .int .i64 (.ofNat 0), .bool true]⟩ 267 (0, 0)),
    (1421, .cells ⟨[vp 1332 0]⟩ 63 (0, 0)),
    (1332, .cells ⟨[vp 1331 0, .bool false, .bool false, .int .u64 (.ofNat 0), .int .u64 (.ofNat 0), .int .u64 (.ofNat 0), .int .u64 (.ofNat 0), .int .u64 (.ofNat 1), .int .u64 (.ofNat 0), .int .u64 (.ofNat 0)]⟩ 152 (0, 0)),
    (1331, .cells ⟨[vp 1328 0, .int .i64 (.ofNat 1024), .int .i64 (.ofNat 1048576), .int .u64 (.ofNat 18446744073709551614), .int .u64 (.ofNat 1), .map (some 1329), .map (some 1330), .int .i64 (.ofNat 15), .int .i64 (.ofNat 1), .string ⟨⟨bs []⟩⟩]⟩ 260 (0, 0)),
    (1328, .cells ⟨[.int .u64 (.ofNat 0), .int .u64 (.ofNat 1), vs 10231 0 1 1152921504606846977, .int .i64 (.ofNat 1024)]⟩ 389 (0, 0)),
    (10231, .cells ⟨[.int .i64 (.ofNat 1)]⟩ 3 (0, 0)),
    (1329, .map ⟨[⟨.int .i64 (.ofNat 1), .agg ⟨[.string ⟨⟨bs [55]⟩⟩, .string ⟨⟨bs []⟩⟩, .string ⟨⟨bs [120]⟩⟩, .int .i64 (.ofNat 15)]⟩, 0⟩]⟩ 1),
    (1330, .map ⟨[⟨.string ⟨⟨bs [55]⟩⟩, .int .u64 (.ofNat 0), 0⟩]⟩ 1),
    (842, .map ⟨[⟨.int .u64 (.ofNat 1), vp 2161 0, 0⟩]⟩ 1),
    (2161, .cells ⟨[vp 2157 0, .int .i64 (.ofNat 0)]⟩ 122 (0, 0)),
    (2157, .cells ⟨[vp 2151 0, .int .i64 (.ofNat 4096), .int .i64 (.ofNat 16384), .int .i64 (.ofNat 64), .int .i64 (.ofNat 65536), .int .u64 (.ofNat 15000), .int .i64 (.ofNat 3), vp 2149 0, .string ⟨⟨bs [71, 69, 84]⟩⟩, vs 3391 0 1 1152921504606846977, .slice none 0 0, .bool true, .bool false, .bool true, .string ⟨⟨bs []⟩⟩, .bool true, vp 2160 0, .int .u64 (.ofNat 15000), .bool true, .bool false]⟩ 187 (0, 0)),
    (2151, .cells ⟨[vs 4017 0 1 1152921504606846977, .int .i64 (.ofNat 1), .int .i64 (.ofNat 0), vp 2150 0, .int .i64 (.ofNat 65536)]⟩ 296 (0, 0)),
    (4017, .cells ⟨[.int .i64 (.ofNat 15)]⟩ 3 (0, 0)),
    (2150, .cells ⟨[vs 3997 0 15 1152921504606847072, .int .i64 (.ofNat 15), .int .i64 (.ofNat 65536), .bool true]⟩ 406 (0, 0)),
    (3997, .cells ⟨[.int .u8 (.ofNat 105), .int .u8 (.ofNat 100), .int .u8 (.ofNat 58), .int .u8 (.ofNat 32), .int .u8 (.ofNat 55), .int .u8 (.ofNat 10), .int .u8 (.ofNat 100), .int .u8 (.ofNat 97), .int .u8 (.ofNat 116), .int .u8 (.ofNat 97), .int .u8 (.ofNat 58), .int .u8 (.ofNat 32), .int .u8 (.ofNat 120), .int .u8 (.ofNat 10), .int .u8 (.ofNat 10), .int .u8 (.ofNat 13), .int .u8 (.ofNat 10), .int .u8 (.ofNat 99), .int .u8 (.ofNat 111), .int .u8 (.ofNat 110), .int .u8 (.ofNat 116), .int .u8 (.ofNat 101), .int .u8 (.ofNat 110), .int .u8 (.ofNat 116), .int .u8 (.ofNat 45), .int .u8 (.ofNat 116), .int .u8 (.ofNat 121), .int .u8 (.ofNat 112), .int .u8 (.ofNat 101), .int .u8 (.ofNat 58), .int .u8 (.ofNat 32), .int .u8 (.ofNat 116), .int .u8 (.ofNat 101), .int .u8 (.ofNat 120), .int .u8 (.ofNat 116), .int .u8 (.ofNat 47), .int .u8 (.ofNat 101), .int .u8 (.ofNat 118), .int .u8 (.ofNat 101), .int .u8 (.ofNat 110), .int .u8 (.ofNat 116), .int .u8 (.ofNat 45), .int .u8 (.ofNat 115), .int .u8 (.ofNat 116), .int .u8 (.ofNat 114), .int .u8 (.ofNat 101), .int .u8 (.ofNat 97), .int .u8 (.ofNat 109), .int .u8 (.ofNat 13), .int .u8 (.ofNat 10), .int .u8 (.ofNat 99), .int .u8 (.ofNat 97), .int .u8 (.ofNat 99), .int .u8 (.ofNat 104), .int .u8 (.ofNat 101), .int .u8 (.ofNat 45), .int .u8 (.ofNat 99), .int .u8 (.ofNat 111), .int .u8 (.ofNat 110), .int .u8 (.ofNat 116), .int .u8 (.ofNat 114), .int .u8 (.ofNat 111), .int .u8 (.ofNat 108), .int .u8 (.ofNat 58), .int .u8 (.ofNat 32), .int .u8 (.ofNat 110), .int .u8 (.ofNat 111), .int .u8 (.ofNat 45), .int .u8 (.ofNat 115), .int .u8 (.ofNat 116), .int .u8 (.ofNat 111), .int .u8 (.ofNat 114), .int .u8 (.ofNat 101), .int .u8 (.ofNat 13), .int .u8 (.ofNat 10), .int .u8 (.ofNat 99), .int .u8 (.ofNat 111), .int .u8 (.ofNat 110), .int .u8 (.ofNat 110), .int .u8 (.ofNat 101), .int .u8 (.ofNat 99), .int .u8 (.ofNat 116), .int .u8 (.ofNat 105), .int .u8 (.ofNat 111), .int .u8 (.ofNat 110), .int .u8 (.ofNat 58), .int .u8 (.ofNat 32), .int .u8 (.ofNat 99), .int .u8 (.ofNat 108), .int .u8 (.ofNat 111), .int .u8 (.ofNat 115), .int .u8 (.ofNat 101), .int .u8 (.ofNat 13), .int .u8 (.ofNat 10), .int .u8 (.ofNat 13), .int .u8 (.ofNat 10)]⟩ 5 (0, 0)),
    (2149, .cells ⟨[.string ⟨⟨bs [71, 69, 84, 32, 47, 97, 32, 72, 84, 84, 80, 47, 49, 46, 48]⟩⟩, .slice none 0 0, .int .i64 (.ofNat 4096), .int .i64 (.ofNat 16384), .int .i64 (.ofNat 64), .slice none 0 0, .int .i64 (.ofNat 19), .bool false, .bool true, .int .i64 (.ofNat 0)]⟩ 280 (0, 0)),
    (3391, .cells ⟨[.string ⟨⟨bs [97]⟩⟩]⟩ 9 (0, 0)),
    (2160, .cells ⟨[.int .u64 (.ofNat 889), .int .u64 (.ofNat 111), .bool false, .bool true]⟩ 302 (0, 0))]
  n0 := 11218
  res := .tuple ⟨[vs 13294 0 1 4611686018427387905, .int .i64 (.ofNat 0)]⟩
  post := [(13294, .cells ⟨[.int .i64 (.ofNat 2), .int .u64 (.ofNat 1), .int .i64 (.ofNat 0), vs 13170 0 6 1152921504606846982]⟩ 91 (0, 0)),
    (13170, .cells ⟨[.int .u8 (.ofNat 58), .int .u8 (.ofNat 32), .int .u8 (.ofNat 104), .int .u8 (.ofNat 98), .int .u8 (.ofNat 10), .int .u8 (.ofNat 10)]⟩ 5 (0, 0)),
    (843, .cells ⟨[vp 855 0, .int .i64 (.ofNat 1024), .int .u64 (.ofNat 5000), .int .i64 (.ofNat 4096), .int .i64 (.ofNat 16384), .int .i64 (.ofNat 64), .int .i64 (.ofNat 65536), .int .u64 (.ofNat 15000), .string ⟨⟨bs []⟩⟩, .int .i64 (.ofNat 4096), .int .i64 (.ofNat 16384), .int .i64 (.ofNat 64), .int .i64 (.ofNat 256), .int .i64 (.ofNat 16384), .int .i64 (.ofNat 16384), .int .u64 (.ofNat 1000), .int .u64 (.ofNat 60000), .int .u64 (.ofNat 1000), .int .u64 (.ofNat 45000), .int .i64 (.ofNat 1024), .int .i64 (.ofNat 1048576), .int .u64 (.ofNat 18446744073709551614), vs 841 0 1 2305843009213693953, vs 1420 0 1 1152921504606846977, vs 1421 0 1 1152921504606846977, .map (some 842), .int .u64 (.ofNat 0), .int .u64 (.ofNat 15000), .bool false, .bool false, .int .i64 (.ofNat 0), .int .i64 (.ofNat 0), .int .u64 (.ofNat 1), .int .u64 (.ofNat 0), .int .u64 (.ofNat 0), .int .u64 (.ofNat 0), .slice none 0 0]⟩ 52 (0, 0)),
    (855, .cells ⟨[vs 1397 0 1 1152921504606846977, .bool true]⟩ 173 (0, 0)),
    (1397, .cells ⟨[vs 1396 0 1 2305843009213693953]⟩ 169 (0, 0)),
    (1396, .cells ⟨[.int .i64 (.ofNat 1), .string ⟨⟨bs [97]⟩⟩]⟩ 311 (0, 0)),
    (841, .cells ⟨[.string ⟨⟨bs [47, 97]⟩⟩, .string ⟨⟨bs [47, 117, 112]⟩⟩]⟩ 86 (0, 0)),
    (1420, .cells ⟨[vp 1220 0]⟩ 107 (0, 0)),
    (1220, .cells ⟨[vp 1310 0, .string ⟨⟨bs [47, 117, 112]⟩⟩, .int .i64 (.ofNat 4096), .int .i64 (.ofNat 16384), .int .i64 (.ofNat 64), .int .i64 (.ofNat 256), .int .i64 (.ofNat 16384), .int .i64 (.ofNat 16384), .int .u64 (.ofNat 1000), .int .u64 (.ofNat 60000), .int .u64 (.ofNat 1000), .int .u64 (.ofNat 45000), .int .i64 (.ofNat 4), .int .u64 (.ofNat 45000), vp 1282 0, vp 1294 0, vp 1325 0, .int .i64 (.ofNat 200), .bool true, .bool false, .bool false, .int .u64 (.ofNat 0), .int .u64 (.ofNat 0)]⟩ 161 (0, 0)),
    (1310, .cells ⟨[vp 1309 0, .int .i64 (.ofNat 16384), .int .i64 (.ofNat 16384), .string ⟨⟨bs [55]⟩⟩, .string ⟨⟨bs []⟩⟩, .slice none 0 0, .bool false, .bool false, vs 9539 0 1 5764607523034234881]⟩ 274 (0, 0)),
    (1309, .cells ⟨[vp 1308 0, .int .i64 (.ofNat 16384), .slice none 0 0, .bool true, .bool false]⟩ 398 (0, 0)),
    (1308, .cells ⟨[vs 8560 15 0 1152921504606846976, .bool true]⟩ 525 (0, 0)),
    (8560, .cells ⟨[.int .u8 (.ofNat 105), .int .u8 (.ofNat 100), .int .u8 (.ofNat 58), .int .u8 (.ofNat 32), .int .u8 (.ofNat 55), .int .u8 (.ofNat 10), .int .u8 (.ofNat 100), .int .u8 (.ofNat 97), .int .u8 (.ofNat 116), .int .u8 (.ofNat 97), .int .u8 (.ofNat 58), .int .u8 (.ofNat 32), .int .u8 (.ofNat 120), .int .u8 (.ofNat 10), .int .u8 (.ofNat 10)]⟩ 5 (0, 0)),
    (9539, .cells ⟨[.int .i64 (.ofNat 1), .string ⟨⟨bs [55]⟩⟩, .string ⟨⟨bs []⟩⟩, .string ⟨⟨bs [120]⟩⟩, .int .u64 (.ofNat 0)]⟩ 491 (0, 0)),
    (1282, .cells ⟨[.string ⟨⟨bs [72, 84, 84, 80, 47, 49, 46, 49, 32, 50, 48, 48, 32, 79, 75]⟩⟩, vs 8036 0 1 2305843009213693953, .int .i64 (.ofNat 4096), .int .i64 (.ofNat 16384), .int .i64 (.ofNat 64), .slice none 0 0, .int .i64 (.ofNat 52), .bool false, .bool true, .int .i64 (.ofNat 0)]⟩ 280 (0, 0)),
    (8036, .cells ⟨[.string ⟨⟨bs [99, 111, 110, 116, 101, 110, 116, 45, 116, 121, 112, 101]⟩⟩, .string ⟨⟨bs [116, 101, 120, 116, 47, 101, 118, 101, 110, 116, 45, 115, 116, 114, 101, 97, 109]⟩⟩]⟩ 139 (0, 0)),
    (1294, .cells ⟨[.int .i64 (.ofNat 256), .slice none 0 0, .bool false, .int .i64 (.ofNat 0), .int .i64 (.ofNat 0), .int .i64 (.ofNat 0), .slice none 0 0, .slice none 0 0, .slice none 0 0, .int .i64 (.ofNat 0)]⟩ 287 (0, 0)),
    (1325, .cells ⟨[.int .u64 (.ofNat 1000), .int .u64 (.ofNat 60000), .int .u64 (.ofNat 1000), .int .u64 (.ofNat 1000), .int .i64 (.ofNat 0), .bool true]⟩ 267 (0, 0)),
    (1421, .cells ⟨[vp 1332 0]⟩ 63 (0, 0)),
    (1332, .cells ⟨[vp 1331 0, .bool false, .bool false, .int .u64 (.ofNat 0), .int .u64 (.ofNat 0), .int .u64 (.ofNat 0), .int .u64 (.ofNat 0), .int .u64 (.ofNat 1), .int .u64 (.ofNat 0), .int .u64 (.ofNat 0)]⟩ 152 (0, 0)),
    (1331, .cells ⟨[vp 1328 0, .int .i64 (.ofNat 1024), .int .i64 (.ofNat 1048576), .int .u64 (.ofNat 18446744073709551614), .int .u64 (.ofNat 1), .map (some 1329), .map (some 1330), .int .i64 (.ofNat 15), .int .i64 (.ofNat 1), .string ⟨⟨bs []⟩⟩]⟩ 260 (0, 0)),
    (1328, .cells ⟨[.int .u64 (.ofNat 0), .int .u64 (.ofNat 1), vs 10231 0 1 1152921504606846977, .int .i64 (.ofNat 1024)]⟩ 389 (0, 0)),
    (10231, .cells ⟨[.int .i64 (.ofNat 1)]⟩ 3 (0, 0)),
    (1329, .map ⟨[⟨.int .i64 (.ofNat 1), .agg ⟨[.string ⟨⟨bs [55]⟩⟩, .string ⟨⟨bs []⟩⟩, .string ⟨⟨bs [120]⟩⟩, .int .i64 (.ofNat 15)]⟩, 0⟩]⟩ 1),
    (1330, .map ⟨[⟨.string ⟨⟨bs [55]⟩⟩, .int .u64 (.ofNat 0), 0⟩]⟩ 1),
    (842, .map ⟨[⟨.int .u64 (.ofNat 1), vp 2161 0, 0⟩]⟩ 1),
    (2161, .cells ⟨[vp 2157 0, .int .i64 (.ofNat 0)]⟩ 122 (0, 0)),
    (2157, .cells ⟨[vp 2151 0, .int .i64 (.ofNat 4096), .int .i64 (.ofNat 16384), .int .i64 (.ofNat 64), .int .i64 (.ofNat 65536), .int .u64 (.ofNat 15000), .int .i64 (.ofNat 3), vp 2149 0, .string ⟨⟨bs [71, 69, 84]⟩⟩, vs 3391 0 1 1152921504606846977, .slice none 0 0, .bool true, .bool false, .bool true, .string ⟨⟨bs []⟩⟩, .bool true, vp 2160 0, .int .u64 (.ofNat 30000), .bool true, .bool false]⟩ 187 (0, 0)),
    (2151, .cells ⟨[vs 4017 0 1 1152921504606846977, .int .i64 (.ofNat 1), .int .i64 (.ofNat 0), vp 2150 0, .int .i64 (.ofNat 65536)]⟩ 296 (0, 0)),
    (4017, .cells ⟨[.int .i64 (.ofNat 6)]⟩ 3 (0, 0)),
    (2150, .cells ⟨[vs 3997 0 6 1152921504606847072, .int .i64 (.ofNat 6), .int .i64 (.ofNat 65536), .bool true]⟩ 406 (0, 0)),
    (3997, .cells ⟨[.int .u8 (.ofNat 58), .int .u8 (.ofNat 32), .int .u8 (.ofNat 104), .int .u8 (.ofNat 98), .int .u8 (.ofNat 10), .int .u8 (.ofNat 10), .int .u8 (.ofNat 100), .int .u8 (.ofNat 97), .int .u8 (.ofNat 116), .int .u8 (.ofNat 97), .int .u8 (.ofNat 58), .int .u8 (.ofNat 32), .int .u8 (.ofNat 120), .int .u8 (.ofNat 10), .int .u8 (.ofNat 10), .int .u8 (.ofNat 13), .int .u8 (.ofNat 10), .int .u8 (.ofNat 99), .int .u8 (.ofNat 111), .int .u8 (.ofNat 110), .int .u8 (.ofNat 116), .int .u8 (.ofNat 101), .int .u8 (.ofNat 110), .int .u8 (.ofNat 116), .int .u8 (.ofNat 45), .int .u8 (.ofNat 116), .int .u8 (.ofNat 121), .int .u8 (.ofNat 112), .int .u8 (.ofNat 101), .int .u8 (.ofNat 58), .int .u8 (.ofNat 32), .int .u8 (.ofNat 116), .int .u8 (.ofNat 101), .int .u8 (.ofNat 120), .int .u8 (.ofNat 116), .int .u8 (.ofNat 47), .int .u8 (.ofNat 101), .int .u8 (.ofNat 118), .int .u8 (.ofNat 101), .int .u8 (.ofNat 110), .int .u8 (.ofNat 116), .int .u8 (.ofNat 45), .int .u8 (.ofNat 115), .int .u8 (.ofNat 116), .int .u8 (.ofNat 114), .int .u8 (.ofNat 101), .int .u8 (.ofNat 97), .int .u8 (.ofNat 109), .int .u8 (.ofNat 13), .int .u8 (.ofNat 10), .int .u8 (.ofNat 99), .int .u8 (.ofNat 97), .int .u8 (.ofNat 99), .int .u8 (.ofNat 104), .int .u8 (.ofNat 101), .int .u8 (.ofNat 45), .int .u8 (.ofNat 99), .int .u8 (.ofNat 111), .int .u8 (.ofNat 110), .int .u8 (.ofNat 116), .int .u8 (.ofNat 114), .int .u8 (.ofNat 111), .int .u8 (.ofNat 108), .int .u8 (.ofNat 58), .int .u8 (.ofNat 32), .int .u8 (.ofNat 110), .int .u8 (.ofNat 111), .int .u8 (.ofNat 45), .int .u8 (.ofNat 115), .int .u8 (.ofNat 116), .int .u8 (.ofNat 111), .int .u8 (.ofNat 114), .int .u8 (.ofNat 101), .int .u8 (.ofNat 13), .int .u8 (.ofNat 10), .int .u8 (.ofNat 99), .int .u8 (.ofNat 111), .int .u8 (.ofNat 110), .int .u8 (.ofNat 110), .int .u8 (.ofNat 101), .int .u8 (.ofNat 99), .int .u8 (.ofNat 116), .int .u8 (.ofNat 105), .int .u8 (.ofNat 111), .int .u8 (.ofNat 110), .int .u8 (.ofNat 58), .int .u8 (.ofNat 32), .int .u8 (.ofNat 99), .int .u8 (.ofNat 108), .int .u8 (.ofNat 111), .int .u8 (.ofNat 115), .int .u8 (.ofNat 101), .int .u8 (.ofNat 13), .int .u8 (.ofNat 10), .int .u8 (.ofNat 13), .int .u8 (.ofNat 10)]⟩ 5 (0, 0)),
    (2149, .cells ⟨[.string ⟨⟨bs [71, 69, 84, 32, 47, 97, 32, 72, 84, 84, 80, 47, 49, 46, 48]⟩⟩, .slice none 0 0, .int .i64 (.ofNat 4096), .int .i64 (.ofNat 16384), .int .i64 (.ofNat 64), .slice none 0 0, .int .i64 (.ofNat 19), .bool false, .bool true, .int .i64 (.ofNat 0)]⟩ 280 (0, 0)),
    (3391, .cells ⟨[.string ⟨⟨bs [97]⟩⟩]⟩ 9 (0, 0)),
    (2160, .cells ⟨[.int .u64 (.ofNat 883), .int .u64 (.ofNat 117), .bool false, .bool true]⟩ 302 (0, 0))]
  n1 := 13388

def c13440 : Chk where
  f := 6
  args := [vp 843 0, .agg ⟨[.int .i64 (.ofNat 9), .int .u64 (.ofNat 0), .int .i64 (.ofNat 0), .int .u64 (.ofNat 0), .int .u64 (.ofNat 0), .slice none 0 0]⟩]
  pre := [(843, .cells ⟨[vp 855 0, .int .i64 (.ofNat 1024), .int .u64 (.ofNat 5000), .int .i64 (.ofNat 4096), .int .i64 (.ofNat 16384), .int .i64 (.ofNat 64), .int .i64 (.ofNat 65536), .int .u64 (.ofNat 15000), .string ⟨⟨bs []⟩⟩, .int .i64 (.ofNat 4096), .int .i64 (.ofNat 16384), .int .i64 (.ofNat 64), .int .i64 (.ofNat 256), .int .i64 (.ofNat 16384), .int .i64 (.ofNat 16384), .int .u64 (.ofNat 1000), .int .u64 (.ofNat 60000), .int .u64 (.ofNat 1000), .int .u64 (.ofNat 45000), .int .i64 (.ofNat 1024), .int .i64 (.ofNat 1048576), .int .u64 (.ofNat 18446744073709551614), vs 841 0 1 2305843009213693953, vs 1420 0 1 1152921504606846977, vs 1421 0 1 1152921504606846977, .map (some 842), .int .u64 (.ofNat 0), .int .u64 (.ofNat 15000), .bool false, .bool false, .int .i64 (.ofNat 0), .int .i64 (.ofNat 0), .int .u64 (.ofNat 1), .int .u64 (.ofNat 0), .int .u64 (.ofNat 0), .int .u64 (.ofNat 0), .slice none 0 0]⟩ 52 (0, 0)),
    (855, .cells ⟨[vs 1397 0 1 1152921504606846977, .bool true]⟩ 173 (0, 0)),
    (1397, .cells ⟨[vs 1396 0 1 2305843009213693953]⟩ 169 (0, 0)),
    (1396, .cells ⟨[.int .i64 (.ofNat 1), .string ⟨⟨bs [97]⟩⟩]⟩ 311 (0, 0)),
    (841, .cells ⟨[.string ⟨⟨bs [47, 97]⟩⟩, .string ⟨⟨bs [47, 117, 112]⟩⟩]⟩ 86 (0, 0)),
    (1420, .cells ⟨[vp 1220 0]⟩ 107 (0, 0)),
    (1220, .cells ⟨[vp 1310 0, .string ⟨⟨bs [47, 117, 112]⟩⟩, .int .i64 (.ofNat 4096), .int .i64 (.ofNat 16384), .int .i64 (.ofNat 64), .int .i64 (.ofNat 256), .int .i64 (.ofNat 16384), .int .i64 (.ofNat 16384), .int .u64 (.ofNat 1000), .int .u64 (.ofNat 60000), .int .u64 (.ofNat 1000), .int .u64 (.ofNat 45000), .int .i64 (.ofNat 4), .int .u64 (.ofNat 45000), vp 1282 0, vp 1294 0, vp 1325 0, .int .i64 (.ofNat 200), .bool true, .bool false, .bool false, .int .u64 (.ofNat 0), .int .u64 (.ofNat 0)]⟩ 161 (0, 0)),
    (1310, .cells ⟨[vp 1309 0, .int .i64 (.ofNat 16384), .int .i64 (.ofNat 16384), .string ⟨⟨bs [55]⟩⟩, .string ⟨⟨bs []⟩⟩, .slice none 0 0, .bool false, .bool false, vs 9539 0 1 5764607523034234881]⟩ 274 (0, 0)),
    (1309, .cells ⟨[vp 1308 0, .int .i64 (.ofNat 16384), .slice none 0 0, .bool true, .bool false]⟩ 398 (0, 0)),
    (1308, .cells ⟨[vs 8560 15 0 1152921504606846976, .bool true]⟩ 525 (0, 0)),
    (8560, .cells ⟨[.int .u8 (.ofNat 105), .int .u8 (.ofNat 100), .int .u8 (.ofNat 58), .int .u8 (.ofNat 32), .int .u8 (.ofNat 55), .int .u8 (.ofNat 10), .int .u8 (.ofNat 100), .int .u8 (.ofNat 97), .int .u8 (.ofNat 116), .int .u8 (.ofNat 97), .int .u8 (.ofNat 58), .int .u8 (.ofNat 32), .int .u8 (.ofNat 120), .int .u8 (.ofNat 10), .int .u8 (.ofNat 10)]⟩ 5 (0, 0)),
    (9539, .cells ⟨[.int .i64 (.ofNat 1), .string ⟨⟨bs [55]⟩⟩, .string ⟨⟨bs []⟩⟩, .string ⟨⟨bs [120]⟩⟩, .int .u64 (.ofNat 0)]⟩ 491 (0, 0)),
    (1282, .cells ⟨[.string ⟨⟨bs [72, 84, 84, 80, 47, 49, 46, 49, 32, 50, 48, 48, 32, 79, 75]⟩⟩, vs 8036 0 1 2305843009213693953, .int .i64 (.ofNat 4096), .int .i64 (.ofNat 16384), .int .i64 (.ofNat 64), .slice none 0 0, .int .i64 (.ofNat 52), .bool false, .bool true, .int .i64 (.ofNat 0)]⟩ 280 (0, 0)),
    (8036, .cells ⟨[.string ⟨⟨bs [99, 111, 110, 116, 101, 110, 116, 45, 116, 121, 112, 101]⟩⟩, .string ⟨⟨bs [116, 101, 120, 116, 47, 101, 118, 101, 110, 116, 45, 115, 116, 114, 101, 97, 109]⟩⟩]⟩ 139 (0, 0)),
    (1294, .cells ⟨[.int .i64 (.ofNat 256), .slice none 0 0, .bool false, .int .i64 (.ofNat 0), .int .i64 (.ofNat 0), .int .i64 (.ofNat 0), .slice none 0 0, .slice none 0 0, .slice none 0 0, .int .i64 (.ofNat 0)]⟩ 287 (0, 0)),
    (1325, .cells ⟨[.int .u64 (.ofNat 1000), .int .u64 (.ofNat 60000), .int .u64 (.ofNat 1000), .int .u64 (.ofNat 1000), .int .i64 (.ofNat 0), .bool true]⟩ 267 (0, 0)),
    (1421, .cells ⟨[vp 1332 0]⟩ 63 (0, 0)),
    (1332, .cells ⟨[vp 1331 0, .bool false, .bool false, .int .u64 (.ofNat 0), .int .u64 (.ofNat 0), .int .u64 (.ofNat 0), .int .u64 (.ofNat 0), .int .u64 (.ofNat 1), .int .u64 (.ofNat 0), .int .u64 (.ofNat 0)]⟩ 152 (0, 0)),
    (1331, .cells ⟨[vp 1328 0, .int .i64 (.ofNat 1024), .int .i64 (.ofNat 1048576), .int .u64 (.ofNat 18446744073709551614), .int .u64 (.ofNat 1), .map (some 1329), .map (some 1330), .int .i64 (.ofNat 15), .int .i64 (.ofNat 1), .string ⟨⟨bs []⟩⟩]⟩ 260 (0, 0)),
    (1328, .cells ⟨[.int .u64 (.ofNat 0), .int .u64 (.ofNat 1), vs 10231 0 1 1152921504606846977, .int .i64 (.ofNat 1024)]⟩ 389 (0, 0)),
    (10231, .cells ⟨[.int .i64 (.ofNat 1)]⟩ 3 (0, 0)),
    (1329, .map ⟨[⟨.int .i64 (.ofNat 1), .agg ⟨[.string ⟨⟨bs [55]⟩⟩, .string ⟨⟨bs []⟩⟩, .string ⟨⟨bs [120]⟩⟩, .int .i64 (.ofNat 15)]⟩, 0⟩]⟩ 1),
    (1330, .map ⟨[⟨.string ⟨⟨bs [55]⟩⟩, .int .u64 (.ofNat 0), 0⟩]⟩ 1),
    (842, .map ⟨[⟨.int .u64 (.ofNat 1), vp 2161 0, 0⟩]⟩ 1),
    (2161, .cells ⟨[vp 2157 0, .int .i64 (.ofNat 0)]⟩ 122 (0, 0)),
    (2157, .cells ⟨[vp 2151 0, .int .i64 (.ofNat 4096), .int .i64 (.ofNat 16384), .int .i64 (.ofNat 64), .int .i64 (.ofNat 65536), .int .u64 (.ofNat 15000), .int .i64 (.ofNat 3), vp 2149 0, .string ⟨⟨bs [71, 69, 84]⟩⟩, vs 3391 0 1 1152921504606846977, .slice none 0 0, .bool true, .bool false, .bool true, .string ⟨⟨bs []⟩⟩, .bool true, vp 2160 0, .int .u64 (.ofNat 30000), .bool true, .bool false]⟩ 187 (0, 0)),
    (2151, .cells ⟨[vs 4017 0 1 1152921504606846977, .int .i64 (.ofNat 1), .int .i64 (.ofNat 0), vp 2150 0, .int .i64 (.ofNat 65536)]⟩ 296 (0, 0)),
    (4017, .cells ⟨[.int .i64 (.ofNat 6)]⟩ 3 (0, 0)),
    (2150, .cells ⟨[vs 3997 0 6 1152921504606847072, .int .i64 (.ofNat 6), .int .i64 (.ofNat 65536), .bool true]⟩ 406 (0, 0)),
    (3997, .cells ⟨[.int .u8 (.ofNat 58), .int .u8 (.ofNat 32), .int .u8 (.ofNat 104), .int .u8 (.ofNat 98), .int .u8 (.ofNat 10), .int .u8 (.ofNat 10), .int .u8 (.ofNat 100), .int .u8 (.ofNat 97), .int .u8 (.ofNat 116), .int .u8 (.ofNat 97), .int .u8 (.ofNat 58), .int .u8 (.ofNat 32), .int .u8 (.ofNat 120), .int .u8 (.ofNat 10), .int .u8 (.ofNat 10), .int .u8 (.ofNat 13), .int .u8 (.ofNat 10), .int .u8 (.ofNat 99), .int .u8 (.ofNat 111), .int .u8 (.ofNat 110), .int .u8 (.ofNat 116), .int .u8 (.ofNat 101), .int .u8 (.ofNat 110), .int .u8 (.ofNat 116), .int .u8 (.ofNat 45), .int .u8 (.ofNat 116), .int .u8 (.ofNat 121), .int .u8 (.ofNat 112), .int .u8 (.ofNat 101), .int .u8 (.ofNat 58), .int .u8 (.ofNat 32), .int .u8 (.ofNat 116), .int .u8 (.ofNat 101), .int .u8 (.ofNat 120), .int .u8 (.ofNat 116), .int .u8 (.ofNat 47), .int .u8 (.ofNat 101), .int .u8 (.ofNat 118), .int .u8 (.ofNat 101), .int .u8 (.ofNat 110), .int .u8 (.ofNat 116), .int .u8 (.ofNat 45), .int .u8 (.ofNat 115), .int .u8 (.ofNat 116), .int .u8 (.ofNat 114), .int .u8 (.ofNat 101), .int .u8 (.ofNat 97), .int .u8 (.ofNat 109), .int .u8 (.ofNat 13), .int .u8 (.ofNat 10), .int .u8 (.ofNat 99), .int .u8 (.ofNat 97), .int .u8 (.ofNat 99), .int .u8 (.ofNat 104), .int .u8 (.ofNat 101), .int .u8 (.ofNat 45), .int .u8 (.ofNat 99), .int .u8 (.ofNat 111), .int .u8 (.ofNat 110), .int .u8 (.ofNat 116), .int .u8 (.ofNat 114), .int .u8 (.ofNat 111), .int .u8 (.ofNat 108), .int .u8 (.ofNat 58), .int .u8 (.ofNat 32), .int .u8 (.ofNat 110), .int .u8 (.ofNat 111), .int .u8 (.ofNat 45), .int .u8 (.ofNat 115), .int .u8 (.ofNat 116), .int .u8 (.ofNat 111), .int .u8 (.ofNat 114), .int .u8 (.ofNat 101), .int .u8 (.ofNat 13), .int .u8 (.ofNat 10), .int .u8 (.ofNat 99), .int .u8 (.ofNat 111), .int .u8 (.ofNat 110), .int .u8 (.ofNat 110), .int .u8 (.ofNat 101), .int .u8 (.ofNat 99), .int .u8 (.ofNat 116), .int .u8 (.ofNat 105), .int .u8 (.ofNat 111), .int .u8 (.ofNat 110), .int .u8 (.ofNat 58), .int .u8 (.ofNat 32), .int .u8 (.ofNat 99), .int .u8 (.ofNat 108), .int .u8 (.ofNat 111), .int .u8 (.ofNat 115), .int .u8 (.ofNat 101), .int .u8 (.ofNat 13), .int .u8 (.ofNat 10), .int .u8 (.ofNat 13), .int .u8 (.ofNat 10)]⟩ 5 (0, 0)),
    (2149, .cells ⟨[.string ⟨⟨bs [71, 69, 84, 32, 47, 97, 32, 72, 84, 84, 80, 47, 49, 46, 48]⟩⟩, .slice none 0 0, .int .i64 (.ofNat 4096), .int .i64 (.ofNat 16384), .int .i64 (.ofNat 64), .slice none 0 0, .int .i64 (.ofNat 19), .bool false, .bool true, .int .i64 (.ofNat 0)]⟩ 280 (0, 0)),
    (3391, .cells ⟨[.string ⟨⟨bs [97]⟩⟩]⟩ 9 (0, 0)),
    (2160, .cells ⟨[.int .u64 (.ofNat 883), .int .u64 (.ofNat 117), .bool false, .bool true]⟩ 302 (0, 0))]
  n0 := 13440
  res := .tuple ⟨[vs 14125 0 2 4611686018427387906, .int .i64 (.ofNat 0)]⟩
  post := [(14125, .cells ⟨[.int .i64 (.ofNat 6), .int .u64 (.ofNat 0), .int .i64 (.ofNat 0), .slice none 0 0, .int .i64 (.ofNat 3), .int .u64 (.ofNat 1), .int .i64 (.ofNat 0), .slice none 0 0]⟩ 91 (1, 0)),
    (843, .cells ⟨[vp 855 0, .int .i64 (.ofNat 1024), .int .u64 (.ofNat 5000), .int .i64 (.ofNat 4096), .int .i64 (.ofNat 16384), .int .i64 (.ofNat 64), .int .i64 (.ofNat 65536), .int .u64 (.ofNat 15000), .string ⟨⟨bs []⟩⟩, .int .i64 (.ofNat 4096), .int .i64 (.ofNat 16384), .int .i64 (.ofNat 64), .int .i64 (.ofNat 256), .int .i64 (.ofNat 16384), .int .i64 (.ofNat 16384), .int .u64 (.ofNat 1000), .int .u64 (.ofNat 60000), .int .u64 (.ofNat 1000), .int .u64 (.ofNat 45000), .int .i64 (.ofNat 1024), .int .i64 (.ofNat 1048576), .int .u64 (.ofNat 18446744073709551614), vs 841 0 1 2305843009213693953, vs 1420 0 1 1152921504606846977, vs 1421 0 1 1152921504606846977, .map (some 842), .int .u64 (.ofNat 20000), .int .u64 (.ofNat 15000), .bool true, .bool false, .int .i64 (.ofNat 0), .int .i64 (.ofNat 0), .int .u64 (.ofNat 1), .int .u64 (.ofNat 0), .int .u64 (.ofNat 0), .int .u64 (.ofNat 0), .slice none 0 0]⟩ 52 (0, 0)),
    (855, .cells ⟨[vs 1397 0 1 1152921504606846977, .bool true]⟩ 173 (0, 0)),
    (1397, .cells ⟨[vs 1396 0 1 2305843009213693953]⟩ 169 (0, 0)),
    (1396, .cells ⟨[.int .i64 (.ofNat 1), .string ⟨⟨bs [97]⟩⟩]⟩ 311 (0, 0)),
    (841, .cells ⟨[.string ⟨⟨bs [47, 97]⟩⟩, .string ⟨⟨bs [47, 117, 112]⟩⟩]⟩ 86 (0, 0)),
    (1420, .cells ⟨[vp 1220 0]⟩ 107 (0, 0)),
    (1220, .cells ⟨[vp 1310 0, .string ⟨⟨bs [47, 117, 112]⟩⟩, .int .i64 (.ofNat 4096), .int .i64 (.ofNat 16384), .int .i64 (.ofNat 64), .int .i64 (.ofNat 256), .int .i64 (.ofNat 16384), .int .i64 (.ofNat 16384), .int .u64 (.ofNat 1000), .int .u64 (.ofNat 60000), .int .u64 (.ofNat 1000), .int .u64 (.ofNat 45000), .int .i64 (.ofNat 5), .int .u64 (.ofNat 0), vp 13528 0, vp 1294 0, vp 1325 0, .int .i64 (.ofNat 0), .bool false, .bool false, .bool false, .int .u64 (.ofNat 0), .int .u64 (.ofNat 0)]⟩ 161 (0, 0)),
    (1310, .cells ⟨[vp 1309 0, .int .i64 (.ofNat 16384), .int .i64 (.ofNat 16384), .string ⟨⟨bs [55]⟩⟩, .string ⟨⟨bs []⟩⟩, .slice none 0 0, .bool false, .bool false, vs 9539 0 1 5764607523034234881]⟩ 274 (0, 0)),
    (1309, .cells ⟨[vp 1308 0, .int .i64 (.ofNat 16384), .slice none 0 0, .bool false, .bool false]⟩ 398 (0, 0)),
    (1308, .cells ⟨[.slice none 0 0, .bool true]⟩ 525 (0, 0)),
    (9539, .cells ⟨[.int .i64 (.ofNat 1), .string ⟨⟨bs [55]⟩⟩, .string ⟨⟨bs []⟩⟩, .string ⟨⟨bs [120]⟩⟩, .int .u64 (.ofNat 0)]⟩ 491 (0, 0)),
    (13528, .cells ⟨[.string ⟨⟨bs []⟩⟩, .slice none 0 0, .int .i64 (.ofNat 4096), .int .i64 (.ofNat 16384), .int .i64 (.ofNat 64), .slice none 0 0, .int .i64 (.ofNat 0), .bool false, .bool false, .int .i64 (.ofNat 0)]⟩ 280 (0, 0)),
    (1294, .cells ⟨[.int .i64 (.ofNat 256), .slice none 0 0, .bool false, .int .i64 (.ofNat 0), .int .i64 (.ofNat 0), .int .i64 (.ofNat 0), .slice none 0 0, .slice none 0 0, .slice none 0 0, .int .i64 (.ofNat 0)]⟩ 287 (0, 0)),
    (1325, .cells ⟨[.int .u64 (.ofNat 1000), .int .u64 (.ofNat 60000), .int .u64 (.ofNat 1000), .int .u64 (.ofNat 1000), .int .i64 (.ofNat 0), .bool true]⟩ 267 (0, 0)),
    (1421, .cells ⟨[vp 1332 0]⟩ 63 (0, 0)),
    (1332, .cells ⟨[vp 1331 0, .bool false, .bool false, .int .u64 (.ofNat 0), .int .u64 (.ofNat 0), .int .u64 (.ofNat 0), .int .u64 (.ofNat 0), .int .u64 (.ofNat 1), .int .u64 (.ofNat 0), .int .u64 (.ofNat 0)]⟩ 152 (0, 0)),
    (1331, .cells ⟨[vp 1328 0, .int .i64 (.ofNat 1024), .int .i64 (.ofNat 1048576), .int .u64 (.ofNat 18446744073709551614), .int .u64 (.ofNat 1), .map (some 1329), .map (some 1330), .int .i64 (.ofNat 15), .int .i64 (.ofNat 1), .string ⟨⟨bs []⟩⟩]⟩ 260 (0, 0)),
    (1328, .cells ⟨[.int .u64 (.ofNat 0), .int .u64 (.ofNat 1), vs 10231 0 1 1152921504606846977, .int .i64 (.ofNat 1024)]⟩ 389 (0, 0)),
    (10231, .cells ⟨[.int .i64 (.ofNat 1)]⟩ 3 (0, 0)),
    (1329, .map ⟨[⟨.int .i64 (.ofNat 1), .agg ⟨[.string ⟨⟨bs [55]⟩⟩, .string ⟨⟨bs []⟩⟩, .string ⟨⟨bs [120]⟩⟩, .int .i64 (.ofNat 15)]⟩, 0⟩]⟩ 1),
    (1330, .map ⟨[⟨.string ⟨⟨bs [55]⟩⟩, .int .u64 (.ofNat 0), 0⟩]⟩ 1),
    (842, .map ⟨[]⟩ 1)]
  n1 := 14126

def c14230 : Chk where
  f := 6
  args := [vp 843 0, .agg ⟨[.int .i64 (.ofNat 4), .int .u64 (.ofNat 9), .int .i64 (.ofNat 0), .int .u64 (.ofNat 1), .int .u64 (.ofNat 0), .slice none 0 0]⟩]
  pre := [(843, .cells ⟨[vp 855 0, .int .i64 (.ofNat 1024), .int .u64 (.ofNat 5000), .int .i64 (.ofNat 4096), .int .i64 (.ofNat 16384), .int .i64 (.ofNat 64), .int .i64 (.ofNat 65536), .int .u64 (.ofNat 15000), .string ⟨⟨bs []⟩⟩, .int .i64 (.ofNat 4096), .int .i64 (.ofNat 16384), .int .i64 (.ofNat 64), .int .i64 (.ofNat 256), .int .i64 (.ofNat 16384), .int .i64 (.ofNat 16384), .int .u64 (.ofNat 1000), .int .u64 (.ofNat 60000), .int .u64 (.ofNat 1000), .int .u64 (.ofNat 45000), .int .i64 (.ofNat 1024), .int .i64 (.ofNat 1048576), .int .u64 (.ofNat 18446744073709551614), vs 841 0 1 2305843009213693953, vs 1420 0 1 1152921504606846977, vs 1421 0 1 1152921504606846977, .map (some 842), .int .u64 (.ofNat 20000), .int .u64 (.ofNat 15000), .bool true, .bool false, .int .i64 (.ofNat 0), .int .i64 (.ofNat 0), .int .u64 (.ofNat 1), .int .u64 (.ofNat 0), .int .u64 (.ofNat 0), .int .u64 (.ofNat 0), .slice none 0 0]⟩ 52 (0, 0)),
    (855, .cells ⟨[vs 1397 0 1 1152921504606846977, .bool true]⟩ 173 (0, 0)),
    (1397, .cells ⟨[vs 1396 0 1 2305843009213693953]⟩ 169 (0, 0)),
    (1396, .cells ⟨[.int .i64 (.ofNat 1), .string ⟨⟨bs [97]⟩⟩]⟩ 311 (0, 0)),
    (841, .cells ⟨[.string ⟨⟨bs [47, 97]⟩⟩, .string ⟨⟨bs [47, 117, 112]⟩⟩]⟩ 86 (0, 0)),
    (1420, .cells ⟨[vp 1220 0]⟩ 107 (0, 0)),
    (1220, .cells ⟨[vp 1310 0, .string ⟨⟨bs [47, 117, 112]⟩⟩, .int .i64 (.ofNat 4096), .int .i64 (.ofNat 16384), .int .i64 (.ofNat 64), .int .i64 (.ofNat 256), .int .i64 (.ofNat 16384), .int .i64 (.ofNat 16384), .int .u64 (.ofNat 1000), .int .u64 (.ofNat 60000), .int .u64 (.ofNat 1000), .int .u64 (.ofNat 45000), .int .i64 (.ofNat 5), .int .u64 (.ofNat 0), vp 13528 0, vp 1294 0, vp 1325 0, .int .i64 (.ofNat 0), .bool false, .bool false, .bool false, .int .u64 (.ofNat 0), .int .u64 (.ofNat 0)]⟩ 161 (0, 0)),
    (1310, .cells ⟨[vp 1309 0, .int .i64 (.ofNat 16384), .int .i64 (.ofNat 16384), .string ⟨⟨bs [55]⟩⟩, .string ⟨⟨bs []⟩⟩, .slice none 0 0, .bool false, .bool false, vs 9539 0 1 5764607523034234881]⟩ 274 (0, 0)),
    (1309, .cells ⟨[vp 1308 0, .int .i64 (.ofNat 16384), .slice none 0 0, .bool false, .bool false]⟩ 398 (0, 0)),
    (1308, .cells ⟨[.slice none 0 0, .bool true]⟩ 525 (0, 0)),
    (9539, .cells ⟨[.int .i64 (.ofNat 1), .string ⟨⟨bs [55]⟩⟩, .string ⟨⟨bs []⟩⟩, .string ⟨⟨bs [120]⟩⟩, .int .u64 (.ofNat 0)]⟩ 491 (0, 0)),
    (13528, .cells ⟨[.string ⟨⟨bs []⟩⟩, .slice none 0 0, .int .i64 (.ofNat 4096), .int .i64 (.ofNat 16384), .int .i64 (.ofNat 64), .slice none 0 0, .int .i64 (.ofNat 0), .bool false, .bool false, .int .i64 (.ofNat 0)]⟩ 280 (0, 0)),
    (1294, .cells ⟨[.int .i64 (.ofNat 256), .slice none 0 0, .bool false, .int .i64 (.ofNat 0), .int .i64 (.ofNat 0), .int .i64 (.ofNat 0), .slice none 0 0, .slice none 0 0, .slice none 0 0, .int .i64 (.ofNat 0)]⟩ 287 (0, 0)),
    (1325, .cells ⟨[.int .u64 (.ofNat 1000), .int .u64 (.ofNat 60000), .int .u64 (.ofNat 1000), .int .u64 (.ofNat 1000), .int .i64 (.ofNat 0), .bool true]⟩ 267 (0, 0)),
    (1421, .cells ⟨[vp 1332 0]⟩ 63 (0, 0)),
    (1332, .cells ⟨[vp 1331 0, .bool false, .bool false, .int .u64 (.ofNat 0), .int .u64 (.ofNat 0), .int .u64 (.ofNat 0), .int .u64 (.ofNat 0), .int .u64 (.ofNat 1), .int .u64 (.ofNat 0), .int .u64 (.ofNat 0)]⟩ 152 (0, 0)),
    (1331, .cells ⟨[vp 1328 0, .int .i64 (.ofNat 1024), .int .i64 (.ofNat 1048576), .int .u64 (.ofNat 18446744073709551614), .int .u64 (.ofNat 1), .map (some 1329), .map (some 1330), .int .i64 (.ofNat 15), .int .i64 (.ofNat 1), .string ⟨⟨bs []⟩⟩]⟩ 260 (0, 0)),
    (1328, .cells ⟨[.int .u64 (.ofNat 0), .int .u64 (.ofNat 1), vs 10231 0 1 1152921504606846977, .int .i64 (.ofNat 1024)]⟩ 389 (0, 0)),
    (10231, .cells ⟨[.int .i64 (.ofNat 1)]⟩ 3 (0, 0)),
    (1329, .map ⟨[⟨.int .i64 (.ofNat 1), .agg ⟨[.string ⟨⟨bs [55]⟩⟩, .string ⟨⟨bs []⟩⟩, .string ⟨⟨bs [120]⟩⟩, .int .i64 (.ofNat 15)]⟩, 0⟩]⟩ 1),
    (1330, .map ⟨[⟨.string ⟨⟨bs [55]⟩⟩, .int .u64 (.ofNat 0), 0⟩]⟩ 1),
    (842, .map ⟨[]⟩ 1)]
  n0 := 14230
  res := .tuple ⟨[.slice none 0 0, .int .i64 (.ofNat 5)]⟩
  post := [(843, .cells ⟨[vp 855 0, .int .i64 (.ofNat 1024), .int .u64 (.ofNat 5000), .int .i64 (.ofNat 4096), .int .i64 (.ofNat 16384), .int .i64 (.ofNat 64), .int .i64 (.ofNat 65536), .int .u64 (.ofNat 15000), .string ⟨⟨bs []⟩⟩, .int .i64 (.ofNat 4096), .int .i64 (.ofNat 16384), .int .i64 (.ofNat 64), .int .i64 (.ofNat 256), .int .i64 (.ofNat 16384), .int .i64 (.ofNat 16384), .int .u64 (.ofNat 1000), .int .u64 (.ofNat 60000), .int .u64 (.ofNat 1000), .int .u64 (.ofNat 45000), .int .i64 (.ofNat 1024), .int .i64 (.ofNat 1048576), .int .u64 (.ofNat 18446744073709551614), vs 841 0 1 2305843009213693953, vs 1420 0 1 1152921504606846977, vs 1421 0 1 1152921504606846977, .map (some 842), .int .u64 (.ofNat 20000), .int .u64 (.ofNat 15000), .bool true, .bool false, .int .i64 (.ofNat 0), .int .i64 (.ofNat 0), .int .u64 (.ofNat 1), .int .u64 (.ofNat 0), .int .u64 (.ofNat 0), .int .u64 (.ofNat 0), .slice none 0 0]⟩ 52 (0, 0)),
    (855, .cells ⟨[vs 1397 0 1 1152921504606846977, .bool true]⟩ 173 (0, 0)),
    (1397, .cells ⟨[vs 1396 0 1 2305843009213693953]⟩ 169 (0, 0)),
    (1396, .cells ⟨[.int .i64 (.ofNat 1), .string ⟨⟨bs [97]⟩⟩]⟩ 311 (0, 0)),
    (841, .cells ⟨[.string ⟨⟨bs [47, 97]⟩⟩, .string ⟨⟨bs [47, 117, 112]⟩⟩]⟩ 86 (0, 0)),
    (1420, .cells ⟨[vp 1220 0]⟩ 107 (0, 0)),
    (1220, .cells ⟨[vp 1310 0, .string ⟨⟨bs [47, 117, 112]⟩⟩, .int .i64 (.ofNat 4096), .int .i64 (.ofNat 16384), .int .i64 (.ofNat 64), .int .i64 (.ofNat 256), .int .i64 (.ofNat 16384), .int .i64 (.ofNat 16384), .int .u64 (.ofNat 1000), .int .u64 (.ofNat 60000), .int .u64 (.ofNat 1000), .int .u64 (.ofNat 45000), .int .i64 (.ofNat 5), .int .u64 (.ofNat 0), vp 13528 0, vp 1294 0, vp 1325 0, .int .i64 (.ofNat 0), .bool false, .bool false, .bool false, .int .u64 (.ofNat 0), .int .u64 (.ofNat 0)]⟩ 161 (0, 0)),
    (1310, .cells ⟨[vp 1309 0, .int .i64 (.ofNat 16384), .int .i64 (.ofNat 16384), .string ⟨⟨bs [55]⟩⟩, .string ⟨⟨bs []⟩⟩, .slice none 0 0, .bool false, .bool false, vs 9539 0 1 5764607523034234881]⟩ 274 (0, 0)),
    (1309, .cells ⟨[vp 1308 0, .int .i64 (.ofNat 16384), .slice none 0 0, .bool false, .bool false]⟩ 398 (0, 0)),
    (1308, .cells ⟨[.slice none 0 0, .bool true]⟩ 525 (0, 0)),
    (9539, .cells ⟨[.int .i64 (.ofNat 1), .string ⟨⟨bs [55]⟩⟩, .string ⟨⟨bs []⟩⟩, .string ⟨⟨bs [120]⟩⟩, .int .u64 (.ofNat 0)]⟩ 491 (0, 0)),
    (13528, .cells ⟨[.string ⟨⟨bs []⟩⟩, .slice none 0 0, .int .i64 (.ofNat 4096), .int .i64 (.ofNat 16384), .int .i64 (.ofNat 64), .slice none 0 0, .int .i64 (.ofNat 0), .bool false, .bool false, .int .i64 (.ofNat 0)]⟩ 280 (0, 0)),
    (1294, .cells ⟨[.int .i64 (.ofNat 256), .slice none 0 0, .bool false, .int .i64 (.ofNat 0), .int .i64 (.ofNat 0), .int .i64 (.ofNat 0), .slice none 0 0, .slice none 0 0, .slice none 0 0, .int .i64 (.ofNat 0)]⟩ 287 (0, 0)),
    (1325, .cells ⟨[.int .u64 (.ofNat 1000), .int .u64 (.ofNat 60000), .int .u64 (.ofNat 1000), .int .u64 (.ofNat 1000), .int .i64 (.ofNat 0), .bool true]⟩ 267 (0, 0)),
    (1421, .cells ⟨[vp 1332 0]⟩ 63 (0, 0)),
    (1332, .cells ⟨[vp 1331 0, .bool false, .bool false, .int .u64 (.ofNat 0), .int .u64 (.ofNat 0), .int .u64 (.ofNat 0), .int .u64 (.ofNat 0), .int .u64 (.ofNat 1), .int .u64 (.ofNat 0), .int .u64 (.ofNat 0)]⟩ 152 (0, 0)),
    (1331, .cells ⟨[vp 1328 0, .int .i64 (.ofNat 1024), .int .i64 (.ofNat 1048576), .int .u64 (.ofNat 18446744073709551614), .int .u64 (.ofNat 1), .map (some 1329), .map (some 1330), .int .i64 (.ofNat 15), .int .i64 (.ofNat 1), .string ⟨⟨bs []⟩⟩]⟩ 260 (0, 0)),
    (1328, .cells ⟨[.int .u64 (.ofNat 0), .int .u64 (.ofNat 1), vs 10231 0 1 1152921504606846977, .int .i64 (.ofNat 1024)]⟩ 389 (0, 0)),
    (10231, .cells ⟨[.int .i64 (.ofNat 1)]⟩ 3 (0, 0)),
    (1329, .map ⟨[⟨.int .i64 (.ofNat 1), .agg ⟨[.string ⟨⟨bs [55]⟩⟩, .string ⟨⟨bs []⟩⟩, .string ⟨⟨bs [120]⟩⟩, .int .i64 (.ofNat 15)]⟩, 0⟩]⟩ 1),
    (1330, .map ⟨[⟨.string ⟨⟨bs [55]⟩⟩, .int .u64 (.ofNat 0), 0⟩]⟩ 1),
    (842, .map ⟨[]⟩ 1)]
  n1 := 14254

def cW : Chk where
  f := 5
  args := []
  pre := []
  n0 := 23
  res := .bool true
  post := []
  n1 := 14254
end

end Go.Bel
