/- The small codes of the seat's functions, and that they are the functions' codes. -/
import Derived.Test.YtamckclacocifaaAb28
import Derived.Test.YtamckclacocifaaProg
namespace Go.Proofs.Ytamckclacocifaa
open Go.Ab
def ir3 : IC :=
  (.seq (.reg (((some 2), .mv (.c (.bool false)), none) ::
    []))
  (.seq (.seq (.reg (((some 5), .mv (.t 0), none) ::
    ((some 6), .lenS (.t 5), none) ::
    ((some 7), .bin .gtr false (.t 6) (.c (.int .i64 200)), none) ::
    []))
  (.cond (.t 7)
   (.seq (.reg (((some 8), .call (.f 12) [], none) ::
    ((some 2), .mv (.t 8), none) ::
    []))
   .ret)
   .skip))
  (.seq (.reg (((some 9), .mv (.t 0), none) ::
    ((some 10), .call (.f 13) [(.t 9)], none) ::
    ((some 3), .mv (.t 10), none) ::
    []))
  (.seq (.seq (.reg (((some 11), .mv (.t 3), none) ::
    ((some 12), .lenL (.t 11), none) ::
    ((some 13), .mv (.t 0), none) ::
    ((some 14), .lenS (.t 13), none) ::
    ((some 15), .bin .add false (.t 14) (.c (.int .i64 1)), none) ::
    ((some 16), .bin .neq false (.t 12) (.t 15), none) ::
    []))
  (.cond (.t 16)
   (.seq (.reg (((some 2), .mv (.c (.bool false)), none) ::
    []))
   .ret)
   .skip))
  (.seq (.seq (.reg (((some 4), .mv (.c (.int .i64 0)), none) ::
    []))
  (.blk 0 (.loop (.seq (.seq (.reg (((some 17), .mv (.t 4), none) ::
    ((some 18), .mv (.t 3), none) ::
    ((some 19), .lenL (.t 18), none) ::
    ((some 20), .bin .lss false (.t 17) (.t 19), none) ::
    []))
   (.cond (.t 20)
    .skip
    (.exit 0)))
   (.seq (.blk 1 (.seq (.reg (((some 23), .mv (.t 3), none) ::
    ((some 24), .mv (.t 4), none) ::
    ((some 25), .iaS 2 (.t 23) (.t 24), none) ::
    ((some 26), .iaA 2 1 (.t 25) (.c (.int .i64 0)), none) ::
    ((some 27), .ld ⟨1, false, 16⟩ (.t 26), none) ::
    ((some 28), .mv (.t 3), none) ::
    ((some 29), .mv (.t 4), none) ::
    ((some 30), .iaS 2 (.t 28) (.t 29), none) ::
    ((some 31), .iaA 2 1 (.t 30) (.c (.int .i64 1)), none) ::
    ((some 32), .ld ⟨1, false, 16⟩ (.t 31), none) ::
    ((some 33), .bin .add false (.t 27) (.t 32), none) ::
    ((some 34), .mv (.t 0), none) ::
    ((some 35), .bin .neq false (.t 33) (.t 34), none) ::
    ((some 36), .mv (.t 35), none) ::
    ((some 37), .mv (.t 3), (some (36, false))) ::
    ((some 38), .mv (.t 4), (some (36, false))) ::
    ((some 39), .iaS 2 (.t 37) (.t 38), (some (36, false))) ::
    ((some 40), .iaA 2 1 (.t 39) (.c (.int .i64 0)), (some (36, false))) ::
    ((some 41), .ld ⟨1, false, 16⟩ (.t 40), (some (36, false))) ::
    ((some 42), .lenS (.t 41), (some (36, false))) ::
    ((some 43), .mv (.t 4), (some (36, false))) ::
    ((some 44), .bin .neq false (.t 42) (.t 43), (some (36, false))) ::
    ((some 45), .pick (.t 36) (.c (.bool true)) (.t 44), none) ::
    []))
   (.cond (.t 45)
    (.seq (.reg (((some 2), .mv (.c (.bool false)), none) ::
    []))
    .ret)
    .skip)))
   (.reg (((some 21), .mv (.t 4), none) ::
    ((some 22), .bin .add false (.t 21) (.c (.int .i64 1)), none) ::
    ((some 4), .mv (.t 22), none) ::
    [])))))))
  (.seq (.reg (((some 46), .call (.f 12) [], none) ::
    ((some 2), .mv (.t 46), none) ::
    []))
  .ret))))))
theorem fac3 : Fac Try.prog 3 47 ir3 [.tmp 2] := ⟨by kernel_rfl, ⟨Try.f3, _, Try.func3, rfl, rfl, rfl, by kernel_rfl⟩, by kernel_rfl, by kernel_rfl⟩
def ir4 : IC :=
  (.seq (.reg (((some 2), .mv (.c (.bool false)), none) ::
    []))
  (.seq (.seq (.reg (((some 6), .mv (.t 0), none) ::
    ((some 7), .lenS (.t 6), none) ::
    ((some 8), .bin .gtr false (.t 7) (.c (.int .i64 200)), none) ::
    []))
  (.cond (.t 8)
   (.seq (.reg (((some 9), .call (.f 12) [], none) ::
    ((some 2), .mv (.t 9), none) ::
    []))
   .ret)
   .skip))
  (.seq (.reg (((some 10), .mv (.t 0), none) ::
    ((some 11), .call (.f 14) [(.t 10)], none) ::
    ((some 12), .mv (.t 0), none) ::
    ((some 13), .call (.f 15) [(.t 12)], none) ::
    ((some 14), .mv (.t 0), none) ::
    ((some 15), .call (.f 16) [(.t 14)], none) ::
    ((some 3), .mv (.t 11), none) ::
    ((some 4), .mv (.t 13), none) ::
    ((some 5), .mv (.t 15), none) ::
    []))
  (.seq (.seq (.reg (((some 16), .mv (.t 3), none) ::
    ((some 17), .mv (.t 0), none) ::
    ((some 18), .call (.f 17) [(.t 17)], none) ::
    ((some 19), .bin .neq false (.t 16) (.t 18), none) ::
    ((some 20), .mv (.t 19), none) ::
    ((some 21), .mv (.t 4), (some (20, false))) ::
    ((some 22), .mv (.t 0), (some (20, false))) ::
    ((some 23), .call (.f 18) [(.t 22)], (some (20, false))) ::
    ((some 24), .bin .neq false (.t 21) (.t 23), (some (20, false))) ::
    ((some 25), .pick (.t 20) (.c (.bool true)) (.t 24), none) ::
    ((some 26), .mv (.t 25), none) ::
    ((some 27), .mv (.t 5), (some (26, false))) ::
    ((some 28), .mv (.t 0), (some (26, false))) ::
    ((some 29), .call (.f 19) [(.t 28)], (some (26, false))) ::
    ((some 30), .bin .neq false (.t 27) (.t 29), (some (26, false))) ::
    ((some 31), .pick (.t 26) (.c (.bool true)) (.t 30), none) ::
    []))
  (.cond (.t 31)
   (.seq (.reg (((some 2), .mv (.c (.bool false)), none) ::
    []))
   .ret)
   .skip))
  (.seq (.reg (((some 32), .mv (.t 3), none) ::
    ((some 33), .lenS (.t 32), none) ::
    ((some 34), .mv (.t 0), none) ::
    ((some 35), .lenS (.t 34), none) ::
    ((some 36), .bin .eql false (.t 33) (.t 35), none) ::
    ((some 37), .mv (.t 36), none) ::
    ((some 38), .mv (.t 4), (some (37, true))) ::
    ((some 39), .lenS (.t 38), (some (37, true))) ::
    ((some 40), .mv (.t 0), (some (37, true))) ::
    ((some 41), .lenS (.t 40), (some (37, true))) ::
    ((some 42), .bin .eql false (.t 39) (.t 41), (some (37, true))) ::
    ((some 43), .pick (.t 37) (.t 42) (.c (.bool false)), none) ::
    ((some 44), .mv (.t 43), none) ::
    ((some 45), .mv (.t 3), (some (44, true))) ::
    ((some 46), .call (.f 14) [(.t 45)], (some (44, true))) ::
    ((some 47), .mv (.t 3), (some (44, true))) ::
    ((some 48), .bin .eql false (.t 46) (.t 47), (some (44, true))) ::
    ((some 49), .pick (.t 44) (.t 48) (.c (.bool false)), none) ::
    ((some 50), .mv (.t 49), none) ::
    ((some 51), .mv (.t 4), (some (50, true))) ::
    ((some 52), .call (.f 15) [(.t 51)], (some (50, true))) ::
    ((some 53), .mv (.t 4), (some (50, true))) ::
    ((some 54), .bin .eql false (.t 52) (.t 53), (some (50, true))) ::
    ((some 55), .pick (.t 50) (.t 54) (.c (.bool false)), none) ::
    ((some 56), .mv (.t 55), none) ::
    ((some 57), .mv (.t 5), (some (56, true))) ::
    ((some 58), .call (.f 16) [(.t 57)], (some (56, true))) ::
    ((some 59), .mv (.t 5), (some (56, true))) ::
    ((some 60), .bin .eql false (.t 58) (.t 59), (some (56, true))) ::
    ((some 61), .pick (.t 56) (.t 60) (.c (.bool false)), none) ::
    ((some 62), .mv (.t 61), none) ::
    ((some 63), .mv (.t 4), (some (62, true))) ::
    ((some 64), .call (.f 14) [(.t 63)], (some (62, true))) ::
    ((some 65), .mv (.t 3), (some (62, true))) ::
    ((some 66), .bin .eql false (.t 64) (.t 65), (some (62, true))) ::
    ((some 67), .pick (.t 62) (.t 66) (.c (.bool false)), none) ::
    ((some 68), .mv (.t 67), none) ::
    ((some 69), .call (.f 12) [], (some (68, true))) ::
    ((some 70), .pick (.t 68) (.t 69) (.c (.bool false)), none) ::
    ((some 2), .mv (.t 70), none) ::
    []))
  .ret)))))
theorem fac4 : Fac Try.prog 4 71 ir4 [.tmp 2] := ⟨by kernel_rfl, ⟨Try.f4, _, Try.func4, rfl, rfl, rfl, by kernel_rfl⟩, by kernel_rfl, by kernel_rfl⟩
def ir5 : IC :=
  (.seq (.reg (((some 4), .mv (.c (.bool false)), none) ::
    []))
  (.seq (.seq (.reg (((some 9), .mv (.t 0), none) ::
    ((some 10), .lenS (.t 9), none) ::
    ((some 11), .bin .gtr false (.t 10) (.c (.int .i64 100)), none) ::
    ((some 12), .mv (.t 11), none) ::
    ((some 13), .mv (.t 0), (some (12, false))) ::
    ((some 14), .bin .eql false (.t 13) (.c (.str [])), (some (12, false))) ::
    ((some 15), .mv (.t 14), (some (12, false))) ::
    ((some 16), .mv (.t 1), (some (15, true))) ::
    ((some 17), .bin .gtr false (.t 16) (.c (.int .i64 100)), (some (15, true))) ::
    ((some 18), .pick (.t 15) (.t 17) (.c (.bool false)), (some (12, false))) ::
    ((some 19), .pick (.t 12) (.c (.bool true)) (.t 18), none) ::
    []))
  (.cond (.t 19)
   (.seq (.reg (((some 20), .call (.f 12) [], none) ::
    ((some 4), .mv (.t 20), none) ::
    []))
   .ret)
   .skip))
  (.seq (.reg (((some 22), .mv (.t 0), none) ::
    ((some 23), .mv (.t 1), none) ::
    ((some 24), .call (.f 20) [(.t 22), (.t 23)], none) ::
    ((some 21), .mv (.t 24), none) ::
    ((some 25), .ext 0 (.t 21), none) ::
    ((some 26), .ext 1 (.t 21), none) ::
    ((some 5), .mv (.t 25), none) ::
    ((some 6), .mv (.t 26), none) ::
    []))
  (.seq (.reg (((some 28), .mv (.t 0), none) ::
    ((some 29), .mv (.t 1), none) ::
    ((some 30), .call (.f 21) [(.t 28), (.t 29)], none) ::
    ((some 27), .mv (.t 30), none) ::
    ((some 31), .ext 0 (.t 27), none) ::
    ((some 32), .ext 1 (.t 27), none) ::
    ((some 7), .mv (.t 31), none) ::
    ((some 8), .mv (.t 32), none) ::
    []))
  (.seq (.reg (((some 33), .mv (.t 5), none) ::
    ((some 34), .mv (.t 7), none) ::
    ((some 35), .bin .eql false (.t 33) (.t 34), none) ::
    ((some 36), .mv (.t 35), none) ::
    ((some 37), .mv (.t 6), (some (36, true))) ::
    ((some 38), .mv (.t 8), (some (36, true))) ::
    ((some 39), .bin .eql false (.t 37) (.t 38), (some (36, true))) ::
    ((some 40), .pick (.t 36) (.t 39) (.c (.bool false)), none) ::
    ((some 41), .mv (.t 40), none) ::
    ((some 42), .call (.f 12) [], (some (41, true))) ::
    ((some 43), .pick (.t 41) (.t 42) (.c (.bool false)), none) ::
    ((some 4), .mv (.t 43), none) ::
    []))
  .ret)))))
theorem fac5 : Fac Try.prog 5 44 ir5 [.tmp 4] := ⟨by kernel_rfl, ⟨Try.f5, _, Try.func5, rfl, rfl, rfl, by kernel_rfl⟩, by kernel_rfl, by kernel_rfl⟩
def ir6 : IC :=
  (.seq (.reg (((some 6), .mv (.c (.bool false)), none) ::
    []))
  (.seq (.seq (.reg (((some 15), .mv (.t 0), none) ::
    ((some 16), .lenS (.t 15), none) ::
    ((some 17), .bin .gtr false (.t 16) (.c (.int .i64 100)), none) ::
    []))
  (.cond (.t 17)
   (.seq (.reg (((some 18), .call (.f 12) [], none) ::
    ((some 6), .mv (.t 18), none) ::
    []))
   .ret)
   .skip))
  (.seq (.reg (((some 20), .mv (.t 0), none) ::
    ((some 21), .mv (.t 1), none) ::
    ((some 22), .mv (.t 2), none) ::
    ((some 23), .call (.f 22) [(.t 20), (.t 21), (.t 22)], none) ::
    ((some 19), .mv (.t 23), none) ::
    ((some 24), .ext 0 (.t 19), none) ::
    ((some 25), .ext 1 (.t 19), none) ::
    ((some 7), .mv (.t 24), none) ::
    ((some 8), .mv (.t 25), none) ::
    []))
  (.seq (.reg (((some 27), .mv (.t 0), none) ::
    ((some 28), .mv (.t 1), none) ::
    ((some 29), .mv (.t 2), none) ::
    ((some 30), .call (.f 23) [(.t 27), (.t 28), (.t 29)], none) ::
    ((some 26), .mv (.t 30), none) ::
    ((some 31), .ext 0 (.t 26), none) ::
    ((some 32), .ext 1 (.t 26), none) ::
    ((some 9), .mv (.t 31), none) ::
    ((some 10), .mv (.t 32), none) ::
    []))
  (.seq (.reg (((some 34), .mv (.t 0), none) ::
    ((some 35), .mv (.t 1), none) ::
    ((some 36), .call (.f 24) [(.t 34), (.t 35)], none) ::
    ((some 33), .mv (.t 36), none) ::
    ((some 37), .ext 0 (.t 33), none) ::
    ((some 38), .ext 1 (.t 33), none) ::
    ((some 11), .mv (.t 37), none) ::
    ((some 12), .mv (.t 38), none) ::
    []))
  (.seq (.reg (((some 40), .mv (.t 0), none) ::
    ((some 41), .mv (.t 1), none) ::
    ((some 42), .call (.f 25) [(.t 40), (.t 41)], none) ::
    ((some 39), .mv (.t 42), none) ::
    ((some 43), .ext 0 (.t 39), none) ::
    ((some 44), .ext 1 (.t 39), none) ::
    ((some 13), .mv (.t 43), none) ::
    ((some 14), .mv (.t 44), none) ::
    []))
  (.seq (.reg (((some 45), .mv (.t 7), none) ::
    ((some 46), .mv (.t 9), none) ::
    ((some 47), .bin .eql false (.t 45) (.t 46), none) ::
    ((some 48), .mv (.t 47), none) ::
    ((some 49), .mv (.t 8), (some (48, true))) ::
    ((some 50), .mv (.t 10), (some (48, true))) ::
    ((some 51), .bin .eql false (.t 49) (.t 50), (some (48, true))) ::
    ((some 52), .pick (.t 48) (.t 51) (.c (.bool false)), none) ::
    ((some 53), .mv (.t 52), none) ::
    ((some 54), .mv (.t 11), (some (53, true))) ::
    ((some 55), .mv (.t 13), (some (53, true))) ::
    ((some 56), .bin .eql false (.t 54) (.t 55), (some (53, true))) ::
    ((some 57), .pick (.t 53) (.t 56) (.c (.bool false)), none) ::
    ((some 58), .mv (.t 57), none) ::
    ((some 59), .mv (.t 12), (some (58, true))) ::
    ((some 60), .mv (.t 14), (some (58, true))) ::
    ((some 61), .bin .eql false (.t 59) (.t 60), (some (58, true))) ::
    ((some 62), .pick (.t 58) (.t 61) (.c (.bool false)), none) ::
    ((some 63), .mv (.t 62), none) ::
    ((some 64), .call (.f 12) [], (some (63, true))) ::
    ((some 65), .pick (.t 63) (.t 64) (.c (.bool false)), none) ::
    ((some 6), .mv (.t 65), none) ::
    []))
  .ret)))))))
theorem fac6 : Fac Try.prog 6 66 ir6 [.tmp 6] := ⟨by kernel_rfl, ⟨Try.f6, _, Try.func6, rfl, rfl, rfl, by kernel_rfl⟩, by kernel_rfl, by kernel_rfl⟩
def ir7 : IC :=
  (.seq (.reg (((some 6), .mv (.c (.bool false)), none) ::
    []))
  (.seq (.seq (.reg (((some 11), .mv (.t 0), none) ::
    ((some 12), .lenS (.t 11), none) ::
    ((some 13), .bin .gtr false (.t 12) (.c (.int .i64 100)), none) ::
    ((some 14), .mv (.t 13), none) ::
    ((some 15), .mv (.t 1), (some (14, false))) ::
    ((some 16), .lenS (.t 15), (some (14, false))) ::
    ((some 17), .bin .gtr false (.t 16) (.c (.int .i64 100)), (some (14, false))) ::
    ((some 18), .pick (.t 14) (.c (.bool true)) (.t 17), none) ::
    ((some 19), .mv (.t 18), none) ::
    ((some 20), .mv (.t 2), (some (19, false))) ::
    ((some 21), .lenS (.t 20), (some (19, false))) ::
    ((some 22), .bin .gtr false (.t 21) (.c (.int .i64 100)), (some (19, false))) ::
    ((some 23), .pick (.t 19) (.c (.bool true)) (.t 22), none) ::
    []))
  (.cond (.t 23)
   (.seq (.reg (((some 24), .call (.f 12) [], none) ::
    ((some 6), .mv (.t 24), none) ::
    []))
   .ret)
   .skip))
  (.seq (.reg (((some 26), .mv (.t 0), none) ::
    ((some 27), .mv (.t 1), none) ::
    ((some 28), .mv (.t 2), none) ::
    ((some 29), .call (.f 26) [(.t 26), (.t 27), (.t 28)], none) ::
    ((some 25), .mv (.t 29), none) ::
    ((some 30), .ext 0 (.t 25), none) ::
    ((some 31), .ext 1 (.t 25), none) ::
    ((some 7), .mv (.t 30), none) ::
    ((some 8), .mv (.t 31), none) ::
    []))
  (.seq (.reg (((some 33), .mv (.t 0), none) ::
    ((some 34), .mv (.t 1), none) ::
    ((some 35), .mv (.t 2), none) ::
    ((some 36), .call (.f 27) [(.t 33), (.t 34), (.t 35)], none) ::
    ((some 32), .mv (.t 36), none) ::
    ((some 37), .ext 0 (.t 32), none) ::
    ((some 38), .ext 1 (.t 32), none) ::
    ((some 9), .mv (.t 37), none) ::
    ((some 10), .mv (.t 38), none) ::
    []))
  (.seq (.reg (((some 39), .mv (.t 0), none) ::
    ((some 40), .mv (.t 1), none) ::
    ((some 41), .call (.f 28) [(.t 39), (.t 40)], none) ::
    ((some 42), .mv (.t 0), none) ::
    ((some 43), .mv (.t 1), none) ::
    ((some 44), .call (.f 29) [(.t 42), (.t 43)], none) ::
    ((some 45), .bin .eql false (.t 41) (.t 44), none) ::
    ((some 46), .mv (.t 45), none) ::
    ((some 47), .mv (.t 7), (some (46, true))) ::
    ((some 48), .mv (.t 9), (some (46, true))) ::
    ((some 49), .bin .eql false (.t 47) (.t 48), (some (46, true))) ::
    ((some 50), .pick (.t 46) (.t 49) (.c (.bool false)), none) ::
    ((some 51), .mv (.t 50), none) ::
    ((some 52), .mv (.t 8), (some (51, true))) ::
    ((some 53), .mv (.t 10), (some (51, true))) ::
    ((some 54), .bin .eql false (.t 52) (.t 53), (some (51, true))) ::
    ((some 55), .pick (.t 51) (.t 54) (.c (.bool false)), none) ::
    ((some 56), .mv (.t 55), none) ::
    ((some 57), .call (.f 12) [], (some (56, true))) ::
    ((some 58), .pick (.t 56) (.t 57) (.c (.bool false)), none) ::
    ((some 6), .mv (.t 58), none) ::
    []))
  .ret)))))
theorem fac7 : Fac Try.prog 7 59 ir7 [.tmp 6] := ⟨by kernel_rfl, ⟨Try.f7, _, Try.func7, rfl, rfl, rfl, by kernel_rfl⟩, by kernel_rfl, by kernel_rfl⟩
def ir8 : IC :=
  (.seq (.reg (((some 4), .mv (.c (.bool false)), none) ::
    []))
  (.seq (.seq (.reg (((some 9), .mv (.t 0), none) ::
    ((some 10), .lenS (.t 9), none) ::
    ((some 11), .bin .gtr false (.t 10) (.c (.int .i64 60)), none) ::
    ((some 12), .mv (.t 11), none) ::
    ((some 13), .mv (.t 1), (some (12, false))) ::
    ((some 14), .bin .eql false (.t 13) (.c (.str [])), (some (12, false))) ::
    ((some 15), .pick (.t 12) (.c (.bool true)) (.t 14), none) ::
    []))
  (.cond (.t 15)
   (.seq (.reg (((some 16), .call (.f 12) [], none) ::
    ((some 4), .mv (.t 16), none) ::
    []))
   .ret)
   .skip))
  (.seq (.reg (((some 18), .mv (.t 0), none) ::
    ((some 19), .mv (.t 1), none) ::
    ((some 20), .mv (.t 1), none) ::
    ((some 21), .call (.f 26) [(.t 18), (.t 19), (.t 20)], none) ::
    ((some 17), .mv (.t 21), none) ::
    ((some 22), .ext 0 (.t 17), none) ::
    ((some 23), .ext 1 (.t 17), none) ::
    ((some 5), .mv (.t 22), none) ::
    ((some 6), .mv (.t 23), none) ::
    []))
  (.seq (.reg (((some 25), .mv (.t 0), none) ::
    ((some 26), .mv (.t 1), none) ::
    ((some 27), .call (.f 26) [(.t 25), (.t 26), (.c (.str []))], none) ::
    ((some 24), .mv (.t 27), none) ::
    ((some 28), .ext 0 (.t 24), none) ::
    ((some 29), .ext 1 (.t 24), none) ::
    ((some 7), .mv (.t 28), none) ::
    ((some 8), .mv (.t 29), none) ::
    []))
  (.seq (.seq (.reg (((some 30), .mv (.t 5), none) ::
    ((some 31), .mv (.t 0), none) ::
    ((some 32), .bin .neq false (.t 30) (.t 31), none) ::
    ((some 33), .mv (.t 32), none) ::
    ((some 34), .mv (.t 6), (some (33, false))) ::
    ((some 35), .bin .neq false (.t 34) (.c (.int .i64 0)), (some (33, false))) ::
    ((some 36), .pick (.t 33) (.c (.bool true)) (.t 35), none) ::
    ((some 37), .mv (.t 36), none) ::
    ((some 38), .mv (.t 8), (some (37, false))) ::
    ((some 39), .bin .neq false (.t 38) (.c (.int .i64 0)), (some (37, false))) ::
    ((some 40), .pick (.t 37) (.c (.bool true)) (.t 39), none) ::
    ((some 41), .mv (.t 40), none) ::
    ((some 42), .mv (.t 7), (some (41, false))) ::
    ((some 43), .lenS (.t 42), (some (41, false))) ::
    ((some 44), .mv (.t 0), (some (41, false))) ::
    ((some 45), .lenS (.t 44), (some (41, false))) ::
    ((some 46), .bin .gtr false (.t 43) (.t 45), (some (41, false))) ::
    ((some 47), .pick (.t 41) (.c (.bool true)) (.t 46), none) ::
    []))
  (.cond (.t 47)
   (.seq (.reg (((some 4), .mv (.c (.bool false)), none) ::
    []))
   .ret)
   .skip))
  (.seq (.reg (((some 48), .mv (.t 0), none) ::
    ((some 49), .lenS (.t 48), none) ::
    ((some 50), .mv (.t 7), none) ::
    ((some 51), .lenS (.t 50), none) ::
    ((some 52), .bin .sub false (.t 49) (.t 51), none) ::
    ((some 53), .mv (.t 1), none) ::
    ((some 54), .lenS (.t 53), none) ::
    ((some 55), .bin .rem false (.t 52) (.t 54), none) ::
    ((some 56), .bin .eql false (.t 55) (.c (.int .i64 0)), none) ::
    ((some 57), .mv (.t 56), none) ::
    ((some 58), .mv (.t 0), (some (57, true))) ::
    ((some 59), .mv (.t 1), (some (57, true))) ::
    ((some 60), .call (.f 28) [(.t 58), (.t 59)], (some (57, true))) ::
    ((some 61), .bin .geq false (.t 60) (.c (.int .i64 0)), (some (57, true))) ::
    ((some 62), .mv (.t 7), (some (57, true))) ::
    ((some 63), .mv (.t 0), (some (57, true))) ::
    ((some 64), .bin .neq false (.t 62) (.t 63), (some (57, true))) ::
    ((some 65), .bin .eql true (.t 61) (.t 64), (some (57, true))) ::
    ((some 66), .pick (.t 57) (.t 65) (.c (.bool false)), none) ::
    ((some 67), .mv (.t 66), none) ::
    ((some 68), .call (.f 12) [], (some (67, true))) ::
    ((some 69), .pick (.t 67) (.t 68) (.c (.bool false)), none) ::
    ((some 4), .mv (.t 69), none) ::
    []))
  .ret))))))
theorem fac8 : Fac Try.prog 8 70 ir8 [.tmp 4] := ⟨by kernel_rfl, ⟨Try.f8, _, Try.func8, rfl, rfl, rfl, by kernel_rfl⟩, by kernel_rfl, by kernel_rfl⟩
def ir9 : IC :=
  (.seq (.reg (((some 2), .mv (.c (.bool false)), none) ::
    []))
  (.seq (.reg (((some 6), .mv (.t 0), none) ::
    ((some 7), .call (.f 30) [(.t 6)], none) ::
    ((some 3), .mv (.t 7), none) ::
    []))
  (.seq (.seq (.reg (((some 8), .mv (.t 3), none) ::
    ((some 9), .mv (.t 0), none) ::
    ((some 10), .call (.f 31) [(.t 9)], none) ::
    ((some 11), .bin .neq false (.t 8) (.t 10), none) ::
    []))
  (.cond (.t 11)
   (.seq (.reg (((some 2), .mv (.c (.bool false)), none) ::
    []))
   .ret)
   .skip))
  (.seq (.reg (((some 13), .mv (.t 3), none) ::
    ((some 14), .call (.f 32) [(.t 13)], none) ::
    ((some 12), .mv (.t 14), none) ::
    ((some 15), .ext 0 (.t 12), none) ::
    ((some 16), .ext 1 (.t 12), none) ::
    ((some 4), .mv (.t 15), none) ::
    ((some 5), .mv (.t 16), none) ::
    []))
  (.seq (.seq (.reg (((some 17), .mv (.t 0), none) ::
    ((some 18), .bin .lss false (.t 17) (.c (.int .i64 (-1000000))), none) ::
    ((some 19), .mv (.t 18), none) ::
    ((some 20), .mv (.t 0), (some (19, false))) ::
    ((some 21), .bin .gtr false (.t 20) (.c (.int .i64 1000000)), (some (19, false))) ::
    ((some 22), .pick (.t 19) (.c (.bool true)) (.t 21), none) ::
    []))
  (.cond (.t 22)
   (.seq (.reg (((some 23), .mv (.t 4), none) ::
    ((some 24), .bin .eql false (.t 23) (.c (.int .i64 0)), none) ::
    ((some 25), .mv (.t 24), none) ::
    ((some 26), .mv (.t 5), (some (25, true))) ::
    ((some 27), .bin .eql false (.t 26) (.c (.int .i64 1)), (some (25, true))) ::
    ((some 28), .pick (.t 25) (.t 27) (.c (.bool false)), none) ::
    ((some 29), .mv (.t 28), none) ::
    ((some 30), .call (.f 12) [], (some (29, true))) ::
    ((some 31), .pick (.t 29) (.t 30) (.c (.bool false)), none) ::
    ((some 2), .mv (.t 31), none) ::
    []))
   .ret)
   .skip))
  (.seq (.reg (((some 32), .mv (.t 4), none) ::
    ((some 33), .mv (.t 0), none) ::
    ((some 34), .bin .eql false (.t 32) (.t 33), none) ::
    ((some 35), .mv (.t 34), none) ::
    ((some 36), .mv (.t 5), (some (35, true))) ::
    ((some 37), .bin .eql false (.t 36) (.c (.int .i64 0)), (some (35, true))) ::
    ((some 38), .pick (.t 35) (.t 37) (.c (.bool false)), none) ::
    ((some 39), .mv (.t 38), none) ::
    ((some 40), .call (.f 12) [], (some (39, true))) ::
    ((some 41), .pick (.t 39) (.t 40) (.c (.bool false)), none) ::
    ((some 2), .mv (.t 41), none) ::
    []))
  .ret))))))
theorem fac9 : Fac Try.prog 9 42 ir9 [.tmp 2] := ⟨by kernel_rfl, ⟨Try.f9, _, Try.func9, rfl, rfl, rfl, by kernel_rfl⟩, by kernel_rfl, by kernel_rfl⟩
def ir10 : IC :=
  (.seq (.reg (((some 2), .mv (.c (.bool false)), none) ::
    []))
  (.seq (.seq (.reg (((some 7), .mv (.t 0), none) ::
    ((some 8), .lenS (.t 7), none) ::
    ((some 9), .bin .gtr false (.t 8) (.c (.int .i64 100)), none) ::
    []))
  (.cond (.t 9)
   (.seq (.reg (((some 10), .call (.f 12) [], none) ::
    ((some 2), .mv (.t 10), none) ::
    []))
   .ret)
   .skip))
  (.seq (.reg (((some 12), .mv (.t 0), none) ::
    ((some 13), .call (.f 32) [(.t 12)], none) ::
    ((some 11), .mv (.t 13), none) ::
    ((some 14), .ext 0 (.t 11), none) ::
    ((some 15), .ext 1 (.t 11), none) ::
    ((some 3), .mv (.t 14), none) ::
    ((some 4), .mv (.t 15), none) ::
    []))
  (.seq (.reg (((some 17), .mv (.t 0), none) ::
    ((some 18), .call (.f 33) [(.t 17)], none) ::
    ((some 16), .mv (.t 18), none) ::
    ((some 19), .ext 0 (.t 16), none) ::
    ((some 20), .ext 1 (.t 16), none) ::
    ((some 5), .mv (.t 19), none) ::
    ((some 6), .mv (.t 20), none) ::
    []))
  (.seq (.reg (((some 21), .mv (.t 3), none) ::
    ((some 22), .mv (.t 5), none) ::
    ((some 23), .bin .eql false (.t 21) (.t 22), none) ::
    ((some 24), .mv (.t 23), none) ::
    ((some 25), .mv (.t 4), (some (24, true))) ::
    ((some 26), .mv (.t 6), (some (24, true))) ::
    ((some 27), .bin .eql false (.t 25) (.t 26), (some (24, true))) ::
    ((some 28), .pick (.t 24) (.t 27) (.c (.bool false)), none) ::
    ((some 29), .mv (.t 28), none) ::
    ((some 30), .mv (.t 4), (some (29, true))) ::
    ((some 31), .bin .neq false (.t 30) (.c (.int .i64 0)), (some (29, true))) ::
    ((some 32), .mv (.t 31), (some (29, true))) ::
    ((some 33), .mv (.t 3), (some (32, false))) ::
    ((some 34), .call (.f 30) [(.t 33)], (some (32, false))) ::
    ((some 35), .mv (.t 0), (some (32, false))) ::
    ((some 36), .bin .eql false (.t 34) (.t 35), (some (32, false))) ::
    ((some 37), .pick (.t 32) (.c (.bool true)) (.t 36), (some (29, true))) ::
    ((some 38), .pick (.t 29) (.t 37) (.c (.bool false)), none) ::
    ((some 39), .mv (.t 38), none) ::
    ((some 40), .call (.f 12) [], (some (39, true))) ::
    ((some 41), .pick (.t 39) (.t 40) (.c (.bool false)), none) ::
    ((some 2), .mv (.t 41), none) ::
    []))
  .ret)))))
theorem fac10 : Fac Try.prog 10 42 ir10 [.tmp 2] := ⟨by kernel_rfl, ⟨Try.f10, _, Try.func10, rfl, rfl, rfl, by kernel_rfl⟩, by kernel_rfl, by kernel_rfl⟩
def ir11 : IC :=
  (.seq (.reg (((some 4), .mv (.c (.bool false)), none) ::
    []))
  (.seq (.seq (.reg (((some 9), .mv (.t 0), none) ::
    ((some 10), .lenS (.t 9), none) ::
    ((some 11), .bin .gtr false (.t 10) (.c (.int .i64 100)), none) ::
    []))
  (.cond (.t 11)
   (.seq (.reg (((some 12), .call (.f 12) [], none) ::
    ((some 4), .mv (.t 12), none) ::
    []))
   .ret)
   .skip))
  (.seq (.reg (((some 14), .mv (.t 0), none) ::
    ((some 15), .mv (.t 1), none) ::
    ((some 16), .call (.f 34) [(.t 14), (.t 15)], none) ::
    ((some 13), .mv (.t 16), none) ::
    ((some 17), .ext 0 (.t 13), none) ::
    ((some 18), .ext 1 (.t 13), none) ::
    ((some 5), .mv (.t 17), none) ::
    ((some 6), .mv (.t 18), none) ::
    []))
  (.seq (.reg (((some 20), .mv (.t 0), none) ::
    ((some 21), .mv (.t 1), none) ::
    ((some 22), .call (.f 35) [(.t 20), (.t 21)], none) ::
    ((some 19), .mv (.t 22), none) ::
    ((some 23), .ext 0 (.t 19), none) ::
    ((some 24), .ext 1 (.t 19), none) ::
    ((some 7), .mv (.t 23), none) ::
    ((some 8), .mv (.t 24), none) ::
    []))
  (.seq (.reg (((some 25), .mv (.t 5), none) ::
    ((some 26), .mv (.t 7), none) ::
    ((some 27), .bin .eql false (.t 25) (.t 26), none) ::
    ((some 28), .mv (.t 27), none) ::
    ((some 29), .mv (.t 6), (some (28, true))) ::
    ((some 30), .mv (.t 8), (some (28, true))) ::
    ((some 31), .bin .eql false (.t 29) (.t 30), (some (28, true))) ::
    ((some 32), .pick (.t 28) (.t 31) (.c (.bool false)), none) ::
    ((some 33), .mv (.t 32), none) ::
    ((some 34), .call (.f 12) [], (some (33, true))) ::
    ((some 35), .pick (.t 33) (.t 34) (.c (.bool false)), none) ::
    ((some 4), .mv (.t 35), none) ::
    []))
  .ret)))))
theorem fac11 : Fac Try.prog 11 36 ir11 [.tmp 4] := ⟨by kernel_rfl, ⟨Try.f11, _, Try.func11, rfl, rfl, rfl, by kernel_rfl⟩, by kernel_rfl, by kernel_rfl⟩
def ir12 : IC :=
  (.seq (.reg (((some 0), .mv (.c (.bool false)), none) ::
    []))
  (.seq (.reg (((some 1), .call (.f 14) [(.c (.str [97, 66, 49]))], none) ::
    ((some 2), .bin .eql false (.t 1) (.c (.str [65, 66, 49])), none) ::
    ((some 3), .mv (.t 2), none) ::
    ((some 4), .call (.f 28) [(.c (.str [97, 98])), (.c (.str [99]))], (some (3, true))) ::
    ((some 5), .bin .eql false (.t 4) (.c (.int .i64 (-1))), (some (3, true))) ::
    ((some 6), .pick (.t 3) (.t 5) (.c (.bool false)), none) ::
    ((some 7), .mv (.t 6), none) ::
    ((some 8), .call (.f 30) [(.c (.int .i64 (-7)))], (some (7, true))) ::
    ((some 9), .bin .eql false (.t 8) (.c (.str [45, 55])), (some (7, true))) ::
    ((some 10), .pick (.t 7) (.t 9) (.c (.bool false)), none) ::
    ((some 0), .mv (.t 10), none) ::
    []))
  .ret))
theorem fac12 : Fac Try.prog 12 11 ir12 [.tmp 0] := ⟨by kernel_rfl, ⟨Try.f12, _, Try.func12, rfl, rfl, rfl, by kernel_rfl⟩, by kernel_rfl, by kernel_rfl⟩
def ir13 : IC :=
  (.seq (.reg (((some 2), .mv (.c .nils), none) ::
    []))
  (.seq (.reg (((some 3), .mv (.c .nils), none) ::
    []))
  (.seq (.seq (.reg (((some 5), .mv (.t 0), none) ::
    ((some 6), .lenS (.t 5), none) ::
    ((some 7), .bin .add false (.t 6) (.c (.int .i64 1)), none) ::
    ((some 8), .mv (.c (.int .i64 0)), none) ::
    []))
  (.blk 0 (.loop (.seq (.reg (((some 9), .bin .lss false (.t 8) (.t 7), none) ::
    []))
   (.seq (.cond (.t 9)
    .skip
    (.exit 0))
   (.seq (.blk 1 (.seq (.reg (((some 10), .mv (.t 8), none) ::
    ((some 4), .mv (.t 10), none) ::
    []))
   (.reg (((some 11), .mv (.t 3), none) ::
    ((some 12), .mv (.t 0), none) ::
    ((some 13), .mv (.t 4), none) ::
    ((some 14), .slS (.t 12) none (some (.t 13)), none) ::
    ((some 15), .mv (.t 0), none) ::
    ((some 16), .mv (.t 4), none) ::
    ((some 17), .slS (.t 15) (some (.t 16)) none, none) ::
    ((some 18), .build [(0, 1), (1, 1)] [(.str []), (.str [])] [(0, (.t 14)), (1, (.t 17))], none) ::
    ((some 19), .bsl 25 2 [(.t 18)], none) ::
    ((some 20), .app 25 2 32 (.t 11) (.t 19), none) ::
    ((some 3), .mv (.t 20), none) ::
    []))))
   (.reg (((some 21), .bin .add false (.t 8) (.c (.int .i64 1)), none) ::
    ((some 8), .mv (.t 21), none) ::
    []))))))))
  (.seq (.reg (((some 22), .mv (.t 3), none) ::
    ((some 2), .mv (.t 22), none) ::
    []))
  .ret))))
theorem fac13 : Fac Try.prog 13 23 ir13 [.tmp 2] := ⟨by kernel_rfl, ⟨Try.f13, _, Try.func13, rfl, rfl, rfl, by kernel_rfl⟩, by kernel_rfl, by kernel_rfl⟩
def ir14 : IC :=
  (.seq (.reg (((some 2), .mv (.c (.str [])), none) ::
    []))
  (.seq (.reg (((some 3), .mv (.t 0), none) ::
    ((some 4), .call (.f 36) [(.t 3), (.c (.int .u8 97)), (.c (.int .u8 122))], none) ::
    ((some 2), .mv (.t 4), none) ::
    []))
  .ret))
theorem fac14 : Fac Try.prog 14 5 ir14 [.tmp 2] := ⟨by kernel_rfl, ⟨Try.f14, _, Try.func14, rfl, rfl, rfl, by kernel_rfl⟩, by kernel_rfl, by kernel_rfl⟩
def ir15 : IC :=
  (.seq (.reg (((some 2), .mv (.c (.str [])), none) ::
    []))
  (.seq (.reg (((some 3), .mv (.t 0), none) ::
    ((some 4), .call (.f 36) [(.t 3), (.c (.int .u8 65)), (.c (.int .u8 90))], none) ::
    ((some 2), .mv (.t 4), none) ::
    []))
  .ret))
theorem fac15 : Fac Try.prog 15 5 ir15 [.tmp 2] := ⟨by kernel_rfl, ⟨Try.f15, _, Try.func15, rfl, rfl, rfl, by kernel_rfl⟩, by kernel_rfl, by kernel_rfl⟩
def ir16 : IC :=
  (.seq (.reg (((some 2), .mv (.c (.str [])), none) ::
    []))
  (.seq (.reg (((some 5), .mv (.t 0), none) ::
    ((some 6), .lenS (.t 5), none) ::
    ((some 3), .mv (.c (.int .i64 0)), none) ::
    ((some 4), .mv (.t 6), none) ::
    []))
  (.seq (.blk 0 (.loop (.seq (.seq (.reg (((some 7), .mv (.t 3), none) ::
    ((some 8), .mv (.t 4), none) ::
    ((some 9), .bin .lss false (.t 7) (.t 8), none) ::
    ((some 10), .mv (.t 9), none) ::
    ((some 11), .mv (.t 0), (some (10, true))) ::
    ((some 12), .mv (.t 3), (some (10, true))) ::
    ((some 13), .ixS (.t 11) (.t 12), (some (10, true))) ::
    ((some 14), .bin .eql false (.t 13) (.c (.int .u8 32)), (some (10, true))) ::
    ((some 15), .pick (.t 10) (.t 14) (.c (.bool false)), none) ::
    []))
   (.cond (.t 15)
    .skip
    (.exit 0)))
   (.blk 1 (.reg (((some 16), .mv (.t 3), none) ::
    ((some 17), .bin .add false (.t 16) (.c (.int .i64 1)), none) ::
    ((some 3), .mv (.t 17), none) ::
    []))))))
  (.seq (.blk 2 (.loop (.seq (.seq (.reg (((some 18), .mv (.t 3), none) ::
    ((some 19), .mv (.t 4), none) ::
    ((some 20), .bin .lss false (.t 18) (.t 19), none) ::
    ((some 21), .mv (.t 20), none) ::
    ((some 22), .mv (.t 0), (some (21, true))) ::
    ((some 23), .mv (.t 4), (some (21, true))) ::
    ((some 24), .bin .sub false (.t 23) (.c (.int .i64 1)), (some (21, true))) ::
    ((some 25), .ixS (.t 22) (.t 24), (some (21, true))) ::
    ((some 26), .bin .eql false (.t 25) (.c (.int .u8 32)), (some (21, true))) ::
    ((some 27), .pick (.t 21) (.t 26) (.c (.bool false)), none) ::
    []))
   (.cond (.t 27)
    .skip
    (.exit 2)))
   (.blk 3 (.reg (((some 28), .mv (.t 4), none) ::
    ((some 29), .bin .sub false (.t 28) (.c (.int .i64 1)), none) ::
    ((some 4), .mv (.t 29), none) ::
    []))))))
  (.seq (.reg (((some 30), .mv (.t 0), none) ::
    ((some 31), .mv (.t 3), none) ::
    ((some 32), .mv (.t 4), none) ::
    ((some 33), .slS (.t 30) (some (.t 31)) (some (.t 32)), none) ::
    ((some 2), .mv (.t 33), none) ::
    []))
  .ret)))))
theorem fac16 : Fac Try.prog 16 34 ir16 [.tmp 2] := ⟨by kernel_rfl, ⟨Try.f16, _, Try.func16, rfl, rfl, rfl, by kernel_rfl⟩, by kernel_rfl, by kernel_rfl⟩
def ir17 : IC :=
  (.seq (.reg (((some 2), .mv (.c (.str [])), none) ::
    []))
  (.seq (.reg (((some 3), .mv (.t 0), none) ::
    ((some 4), .call (.f 37) [(.t 3), (.c (.int .u8 97)), (.c (.int .u8 122)), (.c (.int .i64 (-32)))], none) ::
    ((some 2), .mv (.t 4), none) ::
    []))
  .ret))
theorem fac17 : Fac Try.prog 17 5 ir17 [.tmp 2] := ⟨by kernel_rfl, ⟨Try.f17, _, Try.func17, rfl, rfl, rfl, by kernel_rfl⟩, by kernel_rfl, by kernel_rfl⟩
def ir18 : IC :=
  (.seq (.reg (((some 2), .mv (.c (.str [])), none) ::
    []))
  (.seq (.reg (((some 3), .mv (.t 0), none) ::
    ((some 4), .call (.f 37) [(.t 3), (.c (.int .u8 65)), (.c (.int .u8 90)), (.c (.int .i64 32))], none) ::
    ((some 2), .mv (.t 4), none) ::
    []))
  .ret))
theorem fac18 : Fac Try.prog 18 5 ir18 [.tmp 2] := ⟨by kernel_rfl, ⟨Try.f18, _, Try.func18, rfl, rfl, rfl, by kernel_rfl⟩, by kernel_rfl, by kernel_rfl⟩
def ir19 : IC :=
  (.seq (.reg (((some 2), .mv (.c (.str [])), none) ::
    []))
  (.seq (.blk 0 (.loop (.seq (.seq (.reg (((some 3), .mv (.t 0), none) ::
    ((some 4), .lenS (.t 3), none) ::
    ((some 5), .bin .gtr false (.t 4) (.c (.int .i64 0)), none) ::
    ((some 6), .mv (.t 5), none) ::
    ((some 7), .mv (.t 0), (some (6, true))) ::
    ((some 8), .ixS (.t 7) (.c (.int .i64 0)), (some (6, true))) ::
    ((some 9), .bin .eql false (.t 8) (.c (.int .u8 32)), (some (6, true))) ::
    ((some 10), .pick (.t 6) (.t 9) (.c (.bool false)), none) ::
    []))
   (.cond (.t 10)
    .skip
    (.exit 0)))
   (.blk 1 (.reg (((some 11), .mv (.t 0), none) ::
    ((some 12), .slS (.t 11) (some (.c (.int .i64 1))) none, none) ::
    ((some 0), .mv (.t 12), none) ::
    []))))))
  (.seq (.blk 2 (.loop (.seq (.seq (.reg (((some 13), .mv (.t 0), none) ::
    ((some 14), .lenS (.t 13), none) ::
    ((some 15), .bin .gtr false (.t 14) (.c (.int .i64 0)), none) ::
    ((some 16), .mv (.t 15), none) ::
    ((some 17), .mv (.t 0), (some (16, true))) ::
    ((some 18), .mv (.t 0), (some (16, true))) ::
    ((some 19), .lenS (.t 18), (some (16, true))) ::
    ((some 20), .bin .sub false (.t 19) (.c (.int .i64 1)), (some (16, true))) ::
    ((some 21), .ixS (.t 17) (.t 20), (some (16, true))) ::
    ((some 22), .bin .eql false (.t 21) (.c (.int .u8 32)), (some (16, true))) ::
    ((some 23), .pick (.t 16) (.t 22) (.c (.bool false)), none) ::
    []))
   (.cond (.t 23)
    .skip
    (.exit 2)))
   (.blk 3 (.reg (((some 24), .mv (.t 0), none) ::
    ((some 25), .mv (.t 0), none) ::
    ((some 26), .lenS (.t 25), none) ::
    ((some 27), .bin .sub false (.t 26) (.c (.int .i64 1)), none) ::
    ((some 28), .slS (.t 24) none (some (.t 27)), none) ::
    ((some 0), .mv (.t 28), none) ::
    []))))))
  (.seq (.reg (((some 29), .mv (.t 0), none) ::
    ((some 2), .mv (.t 29), none) ::
    []))
  .ret))))
theorem fac19 : Fac Try.prog 19 30 ir19 [.tmp 2] := ⟨by kernel_rfl, ⟨Try.f19, _, Try.func19, rfl, rfl, rfl, by kernel_rfl⟩, by kernel_rfl, by kernel_rfl⟩
def ir20 : IC :=
  (.seq (.reg (((some 4), .mv (.c (.str [])), none) ::
    ((some 5), .mv (.c (.int .i64 0)), none) ::
    []))
  (.seq (.seq (.reg (((some 7), .mv (.t 1), none) ::
    ((some 8), .bin .lss false (.t 7) (.c (.int .i64 0)), none) ::
    []))
  (.cond (.t 8)
   (.seq (.reg (((some 4), .mv (.c (.str [])), none) ::
    ((some 5), .mv (.c (.int .i64 1)), none) ::
    []))
   .ret)
   .skip))
  (.seq (.seq (.reg (((some 9), .mv (.t 0), none) ::
    ((some 10), .bin .eql false (.t 9) (.c (.str [])), none) ::
    ((some 11), .mv (.t 10), none) ::
    ((some 12), .mv (.t 1), (some (11, false))) ::
    ((some 13), .bin .eql false (.t 12) (.c (.int .i64 0)), (some (11, false))) ::
    ((some 14), .pick (.t 11) (.c (.bool true)) (.t 13), none) ::
    []))
  (.cond (.t 14)
   (.seq (.reg (((some 4), .mv (.c (.str [])), none) ::
    ((some 5), .mv (.c (.int .i64 0)), none) ::
    []))
   .ret)
   .skip))
  (.seq (.seq (.reg (((some 15), .mv (.t 1), none) ::
    ((some 16), .mv (.t 0), none) ::
    ((some 17), .lenS (.t 16), none) ::
    ((some 18), .bin .quo false (.c (.int .i64 64)) (.t 17), none) ::
    ((some 19), .bin .gtr false (.t 15) (.t 18), none) ::
    []))
  (.cond (.t 19)
   (.seq (.reg (((some 4), .mv (.c (.str [])), none) ::
    ((some 5), .mv (.c (.int .i64 2)), none) ::
    []))
   .ret)
   .skip))
  (.seq (.reg (((some 6), .mv (.c .nils), none) ::
    []))
  (.seq (.seq (.reg (((some 20), .mv (.t 1), none) ::
    ((some 21), .mv (.c (.int .i64 0)), none) ::
    []))
  (.blk 0 (.loop (.seq (.reg (((some 22), .bin .lss false (.t 21) (.t 20), none) ::
    []))
   (.seq (.cond (.t 22)
    .skip
    (.exit 0))
   (.seq (.blk 1 (.reg (((some 23), .mv (.t 6), none) ::
    ((some 24), .mv (.t 0), none) ::
    ((some 25), .app 5 1 1 (.t 23) (.t 24), none) ::
    ((some 6), .mv (.t 25), none) ::
    [])))
   (.reg (((some 26), .bin .add false (.t 21) (.c (.int .i64 1)), none) ::
    ((some 21), .mv (.t 26), none) ::
    []))))))))
  (.seq (.reg (((some 27), .mv (.t 6), none) ::
    ((some 28), .b2s (.t 27), none) ::
    ((some 4), .mv (.t 28), none) ::
    ((some 5), .mv (.c (.int .i64 0)), none) ::
    []))
  .ret)))))))
theorem fac20 : Fac Try.prog 20 29 ir20 [.tmp 4, .tmp 5] := ⟨by kernel_rfl, ⟨Try.f20, _, Try.func20, rfl, rfl, rfl, by kernel_rfl⟩, by kernel_rfl, by kernel_rfl⟩
def ir21 : IC :=
  (.seq (.reg (((some 4), .mv (.c (.str [])), none) ::
    ((some 5), .mv (.c (.int .i64 0)), none) ::
    []))
  (.seq (.seq (.reg (((some 8), .mv (.t 1), none) ::
    ((some 9), .bin .lss false (.t 8) (.c (.int .i64 0)), none) ::
    []))
  (.cond (.t 9)
   (.seq (.reg (((some 4), .mv (.c (.str [])), none) ::
    ((some 5), .mv (.c (.int .i64 1)), none) ::
    []))
   .ret)
   .skip))
  (.seq (.seq (.reg (((some 10), .mv (.t 0), none) ::
    ((some 11), .bin .eql false (.t 10) (.c (.str [])), none) ::
    []))
  (.cond (.t 11)
   (.seq (.reg (((some 4), .mv (.c (.str [])), none) ::
    ((some 5), .mv (.c (.int .i64 0)), none) ::
    []))
   .ret)
   .skip))
  (.seq (.reg (((some 6), .mv (.c (.str [])), none) ::
    []))
  (.seq (.seq (.reg (((some 7), .mv (.c (.int .i64 0)), none) ::
    []))
  (.blk 0 (.loop (.seq (.seq (.reg (((some 12), .mv (.t 7), none) ::
    ((some 13), .mv (.t 1), none) ::
    ((some 14), .bin .lss false (.t 12) (.t 13), none) ::
    []))
   (.cond (.t 14)
    .skip
    (.exit 0)))
   (.seq (.blk 1 (.seq (.seq (.reg (((some 17), .mv (.t 0), none) ::
    ((some 18), .lenS (.t 17), none) ::
    ((some 19), .mv (.t 6), none) ::
    ((some 20), .lenS (.t 19), none) ::
    ((some 21), .bin .sub false (.c (.int .i64 64)) (.t 20), none) ::
    ((some 22), .bin .gtr false (.t 18) (.t 21), none) ::
    []))
   (.cond (.t 22)
    (.seq (.reg (((some 4), .mv (.c (.str [])), none) ::
    ((some 5), .mv (.c (.int .i64 2)), none) ::
    []))
    .ret)
    .skip))
   (.reg (((some 23), .mv (.t 6), none) ::
    ((some 24), .mv (.t 0), none) ::
    ((some 25), .bin .add false (.t 23) (.t 24), none) ::
    ((some 6), .mv (.t 25), none) ::
    []))))
   (.reg (((some 15), .mv (.t 7), none) ::
    ((some 16), .bin .add false (.t 15) (.c (.int .i64 1)), none) ::
    ((some 7), .mv (.t 16), none) ::
    [])))))))
  (.seq (.reg (((some 26), .mv (.t 6), none) ::
    ((some 4), .mv (.t 26), none) ::
    ((some 5), .mv (.c (.int .i64 0)), none) ::
    []))
  .ret))))))
theorem fac21 : Fac Try.prog 21 27 ir21 [.tmp 4, .tmp 5] := ⟨by kernel_rfl, ⟨Try.f21, _, Try.func21, rfl, rfl, rfl, by kernel_rfl⟩, by kernel_rfl, by kernel_rfl⟩
def ir22 : IC :=
  (.seq (.reg (((some 6), .mv (.c (.str [])), none) ::
    ((some 7), .mv (.c (.int .i64 0)), none) ::
    []))
  (.seq (.seq (.reg (((some 8), .mv (.t 1), none) ::
    ((some 9), .bin .lss false (.t 8) (.c (.int .i64 0)), none) ::
    ((some 10), .mv (.t 9), none) ::
    ((some 11), .mv (.t 1), (some (10, false))) ::
    ((some 12), .mv (.t 2), (some (10, false))) ::
    ((some 13), .bin .gtr false (.t 11) (.t 12), (some (10, false))) ::
    ((some 14), .pick (.t 10) (.c (.bool true)) (.t 13), none) ::
    ((some 15), .mv (.t 14), none) ::
    ((some 16), .mv (.t 2), (some (15, false))) ::
    ((some 17), .mv (.t 0), (some (15, false))) ::
    ((some 18), .lenS (.t 17), (some (15, false))) ::
    ((some 19), .bin .gtr false (.t 16) (.t 18), (some (15, false))) ::
    ((some 20), .pick (.t 15) (.c (.bool true)) (.t 19), none) ::
    []))
  (.cond (.t 20)
   (.seq (.reg (((some 6), .mv (.c (.str [])), none) ::
    ((some 7), .mv (.c (.int .i64 1)), none) ::
    []))
   .ret)
   .skip))
  (.seq (.reg (((some 21), .mv (.t 0), none) ::
    ((some 22), .mv (.t 1), none) ::
    ((some 23), .mv (.t 2), none) ::
    ((some 24), .slS (.t 21) (some (.t 22)) (some (.t 23)), none) ::
    ((some 6), .mv (.t 24), none) ::
    ((some 7), .mv (.c (.int .i64 0)), none) ::
    []))
  .ret)))
theorem fac22 : Fac Try.prog 22 25 ir22 [.tmp 6, .tmp 7] := ⟨by kernel_rfl, ⟨Try.f22, _, Try.func22, rfl, rfl, rfl, by kernel_rfl⟩, by kernel_rfl, by kernel_rfl⟩
def ir23 : IC :=
  (.seq (.reg (((some 6), .mv (.c (.str [])), none) ::
    ((some 7), .mv (.c (.int .i64 0)), none) ::
    []))
  (.seq (.seq (.reg (((some 8), .mv (.t 1), none) ::
    ((some 9), .bin .lss false (.t 8) (.c (.int .i64 0)), none) ::
    ((some 10), .mv (.t 9), none) ::
    ((some 11), .mv (.t 2), (some (10, false))) ::
    ((some 12), .mv (.t 1), (some (10, false))) ::
    ((some 13), .bin .lss false (.t 11) (.t 12), (some (10, false))) ::
    ((some 14), .pick (.t 10) (.c (.bool true)) (.t 13), none) ::
    ((some 15), .mv (.t 14), none) ::
    ((some 16), .mv (.t 2), (some (15, false))) ::
    ((some 17), .mv (.t 0), (some (15, false))) ::
    ((some 18), .lenS (.t 17), (some (15, false))) ::
    ((some 19), .bin .gtr false (.t 16) (.t 18), (some (15, false))) ::
    ((some 20), .pick (.t 15) (.c (.bool true)) (.t 19), none) ::
    []))
  (.cond (.t 20)
   (.seq (.reg (((some 6), .mv (.c (.str [])), none) ::
    ((some 7), .mv (.c (.int .i64 1)), none) ::
    []))
   .ret)
   .skip))
  (.seq (.reg (((some 21), .mv (.t 0), none) ::
    ((some 22), .mv (.t 1), none) ::
    ((some 23), .mv (.t 2), none) ::
    ((some 24), .slS (.t 21) (some (.t 22)) (some (.t 23)), none) ::
    ((some 6), .mv (.t 24), none) ::
    ((some 7), .mv (.c (.int .i64 0)), none) ::
    []))
  .ret)))
theorem fac23 : Fac Try.prog 23 25 ir23 [.tmp 6, .tmp 7] := ⟨by kernel_rfl, ⟨Try.f23, _, Try.func23, rfl, rfl, rfl, by kernel_rfl⟩, by kernel_rfl, by kernel_rfl⟩
def ir24 : IC :=
  (.seq (.reg (((some 4), .mv (.c (.str [])), none) ::
    ((some 5), .mv (.c (.int .i64 0)), none) ::
    []))
  (.seq (.reg (((some 9), .mv (.t 1), none) ::
    ((some 10), .mv (.t 0), none) ::
    ((some 11), .lenS (.t 10), none) ::
    ((some 12), .call (.f 38) [(.t 9), (.t 11)], none) ::
    ((some 8), .mv (.t 12), none) ::
    ((some 13), .ext 0 (.t 8), none) ::
    ((some 14), .ext 1 (.t 8), none) ::
    ((some 6), .mv (.t 13), none) ::
    ((some 7), .mv (.t 14), none) ::
    []))
  (.seq (.seq (.reg (((some 15), .mv (.t 7), none) ::
    ((some 16), .un .not (.t 15), none) ::
    []))
  (.cond (.t 16)
   (.seq (.reg (((some 4), .mv (.c (.str [])), none) ::
    ((some 5), .mv (.c (.int .i64 1)), none) ::
    []))
   .ret)
   .skip))
  (.seq (.reg (((some 17), .mv (.t 0), none) ::
    ((some 18), .mv (.t 6), none) ::
    ((some 19), .mv (.t 6), none) ::
    ((some 20), .bin .add false (.t 19) (.c (.int .i64 1)), none) ::
    ((some 21), .slS (.t 17) (some (.t 18)) (some (.t 20)), none) ::
    ((some 4), .mv (.t 21), none) ::
    ((some 5), .mv (.c (.int .i64 0)), none) ::
    []))
  .ret))))
theorem fac24 : Fac Try.prog 24 22 ir24 [.tmp 4, .tmp 5] := ⟨by kernel_rfl, ⟨Try.f24, _, Try.func24, rfl, rfl, rfl, by kernel_rfl⟩, by kernel_rfl, by kernel_rfl⟩
def ir25 : IC :=
  (.seq (.reg (((some 4), .mv (.c (.str [])), none) ::
    ((some 5), .mv (.c (.int .i64 0)), none) ::
    []))
  (.seq (.reg (((some 7), .mv (.t 1), none) ::
    ((some 8), .mv (.t 0), none) ::
    ((some 9), .lenS (.t 8), none) ::
    ((some 10), .call (.f 39) [(.t 7), (.t 9)], none) ::
    ((some 6), .mv (.t 10), none) ::
    []))
  (.seq (.seq (.reg (((some 11), .mv (.t 6), none) ::
    ((some 12), .bin .lss false (.t 11) (.c (.int .i64 0)), none) ::
    []))
  (.cond (.t 12)
   (.seq (.reg (((some 4), .mv (.c (.str [])), none) ::
    ((some 5), .mv (.c (.int .i64 1)), none) ::
    []))
   .ret)
   .skip))
  (.seq (.reg (((some 13), .mv (.t 0), none) ::
    ((some 14), .mv (.t 6), none) ::
    ((some 15), .mv (.t 6), none) ::
    ((some 16), .bin .add false (.t 15) (.c (.int .i64 1)), none) ::
    ((some 17), .slS (.t 13) (some (.t 14)) (some (.t 16)), none) ::
    ((some 4), .mv (.t 17), none) ::
    ((some 5), .mv (.c (.int .i64 0)), none) ::
    []))
  .ret))))
theorem fac25 : Fac Try.prog 25 18 ir25 [.tmp 4, .tmp 5] := ⟨by kernel_rfl, ⟨Try.f25, _, Try.func25, rfl, rfl, rfl, by kernel_rfl⟩, by kernel_rfl, by kernel_rfl⟩
def ir26 : IC :=
  (.seq (.reg (((some 6), .mv (.c (.str [])), none) ::
    ((some 7), .mv (.c (.int .i64 0)), none) ::
    []))
  (.seq (.seq (.reg (((some 10), .mv (.t 1), none) ::
    ((some 11), .bin .eql false (.t 10) (.c (.str [])), none) ::
    []))
  (.cond (.t 11)
   (.seq (.reg (((some 6), .mv (.c (.str [])), none) ::
    ((some 7), .mv (.c (.int .i64 4)), none) ::
    []))
   .ret)
   .skip))
  (.seq (.reg (((some 8), .mv (.c .nils), none) ::
    []))
  (.seq (.blk 0 (.loop (.blk 1 (.seq (.reg (((some 12), .mv (.t 0), none) ::
    ((some 13), .mv (.t 1), none) ::
    ((some 14), .call (.f 28) [(.t 12), (.t 13)], none) ::
    ((some 9), .mv (.t 14), none) ::
    []))
   (.seq (.seq (.reg (((some 15), .mv (.t 9), none) ::
    ((some 16), .bin .lss false (.t 15) (.c (.int .i64 0)), none) ::
    []))
   (.cond (.t 16)
    (.exit 0)
    .skip))
   (.seq (.reg (((some 17), .mv (.t 8), none) ::
    ((some 18), .mv (.t 0), none) ::
    ((some 19), .mv (.t 9), none) ::
    ((some 20), .slS (.t 18) none (some (.t 19)), none) ::
    ((some 21), .app 5 1 1 (.t 17) (.t 20), none) ::
    ((some 22), .mv (.t 2), none) ::
    ((some 23), .app 5 1 1 (.t 21) (.t 22), none) ::
    ((some 8), .mv (.t 23), none) ::
    []))
   (.seq (.seq (.reg (((some 24), .mv (.t 8), none) ::
    ((some 25), .lenL (.t 24), none) ::
    ((some 26), .bin .gtr false (.t 25) (.c (.int .i64 64)), none) ::
    []))
   (.cond (.t 26)
    (.seq (.reg (((some 6), .mv (.c (.str [])), none) ::
    ((some 7), .mv (.c (.int .i64 2)), none) ::
    []))
    .ret)
    .skip))
   (.reg (((some 27), .mv (.t 0), none) ::
    ((some 28), .mv (.t 9), none) ::
    ((some 29), .mv (.t 1), none) ::
    ((some 30), .lenS (.t 29), none) ::
    ((some 31), .bin .add false (.t 28) (.t 30), none) ::
    ((some 32), .slS (.t 27) (some (.t 31)) none, none) ::
    ((some 0), .mv (.t 32), none) ::
    [])))))))))
  (.seq (.reg (((some 33), .mv (.t 8), none) ::
    ((some 34), .mv (.t 0), none) ::
    ((some 35), .app 5 1 1 (.t 33) (.t 34), none) ::
    ((some 8), .mv (.t 35), none) ::
    []))
  (.seq (.seq (.reg (((some 36), .mv (.t 8), none) ::
    ((some 37), .lenL (.t 36), none) ::
    ((some 38), .bin .gtr false (.t 37) (.c (.int .i64 64)), none) ::
    []))
  (.cond (.t 38)
   (.seq (.reg (((some 6), .mv (.c (.str [])), none) ::
    ((some 7), .mv (.c (.int .i64 2)), none) ::
    []))
   .ret)
   .skip))
  (.seq (.reg (((some 39), .mv (.t 8), none) ::
    ((some 40), .b2s (.t 39), none) ::
    ((some 6), .mv (.t 40), none) ::
    ((some 7), .mv (.c (.int .i64 0)), none) ::
    []))
  .ret)))))))
theorem fac26 : Fac Try.prog 26 41 ir26 [.tmp 6, .tmp 7] := ⟨by kernel_rfl, ⟨Try.f26, _, Try.func26, rfl, rfl, rfl, by kernel_rfl⟩, by kernel_rfl, by kernel_rfl⟩
def ir27 : IC :=
  (.seq (.reg (((some 6), .mv (.c (.str [])), none) ::
    ((some 7), .mv (.c (.int .i64 0)), none) ::
    []))
  (.seq (.seq (.reg (((some 10), .mv (.t 1), none) ::
    ((some 11), .bin .eql false (.t 10) (.c (.str [])), none) ::
    []))
  (.cond (.t 11)
   (.seq (.reg (((some 6), .mv (.c (.str [])), none) ::
    ((some 7), .mv (.c (.int .i64 4)), none) ::
    []))
   .ret)
   .skip))
  (.seq (.reg (((some 8), .mv (.c .nils), none) ::
    []))
  (.seq (.seq (.reg (((some 9), .mv (.c (.int .i64 0)), none) ::
    []))
  (.blk 0 (.loop (.seq (.seq (.reg (((some 12), .mv (.t 9), none) ::
    ((some 13), .mv (.t 0), none) ::
    ((some 14), .lenS (.t 13), none) ::
    ((some 15), .bin .lss false (.t 12) (.t 14), none) ::
    []))
   (.cond (.t 15)
    .skip
    (.exit 0)))
   (.blk 1 (.seq (.seq (.reg (((some 16), .mv (.t 0), none) ::
    ((some 17), .mv (.t 1), none) ::
    ((some 18), .mv (.t 9), none) ::
    ((some 19), .call (.f 40) [(.t 16), (.t 17), (.t 18)], none) ::
    []))
   (.cond (.t 19)
    (.seq (.reg (((some 20), .mv (.t 8), none) ::
    ((some 21), .mv (.t 2), none) ::
    ((some 22), .app 5 1 1 (.t 20) (.t 21), none) ::
    ((some 8), .mv (.t 22), none) ::
    []))
    (.reg (((some 23), .mv (.t 9), none) ::
    ((some 24), .mv (.t 1), none) ::
    ((some 25), .lenS (.t 24), none) ::
    ((some 26), .bin .add false (.t 23) (.t 25), none) ::
    ((some 9), .mv (.t 26), none) ::
    [])))
    (.seq (.reg (((some 27), .mv (.t 8), none) ::
    ((some 28), .mv (.t 0), none) ::
    ((some 29), .mv (.t 9), none) ::
    ((some 30), .ixS (.t 28) (.t 29), none) ::
    ((some 31), .bsl 5 1 [(.t 30)], none) ::
    ((some 32), .app 5 1 1 (.t 27) (.t 31), none) ::
    ((some 8), .mv (.t 32), none) ::
    []))
    (.reg (((some 33), .mv (.t 9), none) ::
    ((some 34), .bin .add false (.t 33) (.c (.int .i64 1)), none) ::
    ((some 9), .mv (.t 34), none) ::
    [])))))
   (.seq (.reg (((some 35), .mv (.t 8), none) ::
    ((some 36), .lenL (.t 35), none) ::
    ((some 37), .bin .gtr false (.t 36) (.c (.int .i64 64)), none) ::
    []))
   (.cond (.t 37)
    (.seq (.reg (((some 6), .mv (.c (.str [])), none) ::
    ((some 7), .mv (.c (.int .i64 2)), none) ::
    []))
    .ret)
    .skip))))))))
  (.seq (.reg (((some 38), .mv (.t 8), none) ::
    ((some 39), .b2s (.t 38), none) ::
    ((some 6), .mv (.t 39), none) ::
    ((some 7), .mv (.c (.int .i64 0)), none) ::
    []))
  .ret)))))
theorem fac27 : Fac Try.prog 27 40 ir27 [.tmp 6, .tmp 7] := ⟨by kernel_rfl, ⟨Try.f27, _, Try.func27, rfl, rfl, rfl, by kernel_rfl⟩, by kernel_rfl, by kernel_rfl⟩
def ir28 : IC :=
  (.seq (.reg (((some 4), .mv (.c (.int .i64 0)), none) ::
    []))
  (.seq .skip
  (.seq (.seq (.reg (((some 5), .mv (.c (.int .i64 0)), none) ::
    []))
  (.blk 0 (.loop (.seq (.seq (.reg (((some 7), .mv (.t 5), none) ::
    ((some 8), .mv (.t 1), none) ::
    ((some 9), .lenS (.t 8), none) ::
    ((some 10), .bin .add false (.t 7) (.t 9), none) ::
    ((some 11), .mv (.t 0), none) ::
    ((some 12), .lenS (.t 11), none) ::
    ((some 13), .bin .leq false (.t 10) (.t 12), none) ::
    []))
   (.cond (.t 13)
    .skip
    (.exit 0)))
   (.seq (.blk 1 (.seq (.seq (.reg (((some 16), .mv (.t 1), none) ::
    ((some 17), .lenS (.t 16), none) ::
    ((some 18), .mv (.c (.int .i64 0)), none) ::
    []))
   (.blk 2 (.loop (.seq (.reg (((some 19), .bin .lss false (.t 18) (.t 17), none) ::
    []))
    (.seq (.cond (.t 19)
     .skip
     (.exit 2))
    (.seq (.blk 3 (.seq (.reg (((some 20), .mv (.t 18), none) ::
    ((some 6), .mv (.t 20), none) ::
    []))
    (.seq (.reg (((some 21), .mv (.t 0), none) ::
    ((some 22), .mv (.t 5), none) ::
    ((some 23), .mv (.t 6), none) ::
    ((some 24), .bin .add false (.t 22) (.t 23), none) ::
    ((some 25), .ixS (.t 21) (.t 24), none) ::
    ((some 26), .mv (.t 1), none) ::
    ((some 27), .mv (.t 6), none) ::
    ((some 28), .ixS (.t 26) (.t 27), none) ::
    ((some 29), .bin .neq false (.t 25) (.t 28), none) ::
    []))
    (.cond (.t 29)
     (.exit 1)
     .skip))))
    (.reg (((some 30), .bin .add false (.t 18) (.c (.int .i64 1)), none) ::
    ((some 18), .mv (.t 30), none) ::
    []))))))))
   (.seq (.reg (((some 31), .mv (.t 5), none) ::
    ((some 4), .mv (.t 31), none) ::
    []))
   .ret)))
   (.reg (((some 14), .mv (.t 5), none) ::
    ((some 15), .bin .add false (.t 14) (.c (.int .i64 1)), none) ::
    ((some 5), .mv (.t 15), none) ::
    [])))))))
  (.seq (.reg (((some 4), .mv (.c (.int .i64 (-1))), none) ::
    []))
  .ret))))
theorem fac28 : Fac Try.prog 28 32 ir28 [.tmp 4] := ⟨by kernel_rfl, ⟨Try.f28, _, Try.func28, rfl, rfl, rfl, by kernel_rfl⟩, by kernel_rfl, by kernel_rfl⟩
def ir29 : IC :=
  (.seq (.reg (((some 4), .mv (.c (.int .i64 0)), none) ::
    []))
  (.seq (.seq (.reg (((some 5), .mv (.c (.int .i64 0)), none) ::
    []))
  (.blk 0 (.loop (.seq (.seq (.reg (((some 6), .mv (.t 5), none) ::
    ((some 7), .mv (.t 1), none) ::
    ((some 8), .lenS (.t 7), none) ::
    ((some 9), .bin .add false (.t 6) (.t 8), none) ::
    ((some 10), .mv (.t 0), none) ::
    ((some 11), .lenS (.t 10), none) ::
    ((some 12), .bin .leq false (.t 9) (.t 11), none) ::
    []))
   (.cond (.t 12)
    .skip
    (.exit 0)))
   (.seq (.blk 1 (.seq (.reg (((some 15), .mv (.t 0), none) ::
    ((some 16), .mv (.t 1), none) ::
    ((some 17), .mv (.t 5), none) ::
    ((some 18), .call (.f 40) [(.t 15), (.t 16), (.t 17)], none) ::
    []))
   (.cond (.t 18)
    (.seq (.reg (((some 19), .mv (.t 5), none) ::
    ((some 4), .mv (.t 19), none) ::
    []))
    .ret)
    .skip)))
   (.reg (((some 13), .mv (.t 5), none) ::
    ((some 14), .bin .add false (.t 13) (.c (.int .i64 1)), none) ::
    ((some 5), .mv (.t 14), none) ::
    [])))))))
  (.seq (.reg (((some 4), .mv (.c (.int .i64 (-1))), none) ::
    []))
  .ret)))
theorem fac29 : Fac Try.prog 29 20 ir29 [.tmp 4] := ⟨by kernel_rfl, ⟨Try.f29, _, Try.func29, rfl, rfl, rfl, by kernel_rfl⟩, by kernel_rfl, by kernel_rfl⟩
def ir30 : IC :=
  (.seq (.reg (((some 2), .mv (.c (.str [])), none) ::
    []))
  (.seq (.reg (((some 6), .mv (.t 0), none) ::
    ((some 7), .cvi .u64 (.t 6), none) ::
    ((some 3), .mv (.t 7), none) ::
    []))
  (.seq (.seq (.reg (((some 8), .mv (.t 0), none) ::
    ((some 9), .bin .lss false (.t 8) (.c (.int .i64 0)), none) ::
    []))
  (.cond (.t 9)
   (.reg (((some 10), .mv (.t 3), none) ::
    ((some 11), .un .neg (.t 10), none) ::
    ((some 3), .mv (.t 11), none) ::
    []))
   .skip))
  (.seq (.reg (((some 4), .al (.agg [(.int .u8 0), (.int .u8 0), (.int .u8 0), (.int .u8 0), (.int .u8 0), (.int .u8 0), (.int .u8 0), (.int .u8 0), (.int .u8 0), (.int .u8 0), (.int .u8 0), (.int .u8 0), (.int .u8 0), (.int .u8 0), (.int .u8 0), (.int .u8 0), (.int .u8 0), (.int .u8 0), (.int .u8 0), (.int .u8 0)]), none) ::
    []))
  (.seq (.reg (((some 5), .mv (.c (.int .i64 20)), none) ::
    []))
  (.seq (.blk 0 (.loop (.seq (.seq (.reg (((some 12), .mv (.t 3), none) ::
    ((some 13), .bin .gtr false (.t 12) (.c (.int .u64 0)), none) ::
    ((some 14), .mv (.t 13), none) ::
    ((some 15), .mv (.t 5), (some (14, false))) ::
    ((some 16), .bin .eql false (.t 15) (.c (.int .i64 20)), (some (14, false))) ::
    ((some 17), .pick (.t 14) (.c (.bool true)) (.t 16), none) ::
    []))
   (.cond (.t 17)
    .skip
    (.exit 0)))
   (.blk 1 (.seq (.reg (((some 18), .mv (.t 5), none) ::
    ((some 19), .bin .sub false (.t 18) (.c (.int .i64 1)), none) ::
    ((some 5), .mv (.t 19), none) ::
    []))
   (.seq (.reg (((some 20), .mv (.t 5), none) ::
    ((some 21), .mv (.t 3), none) ::
    ((some 22), .bin .rem false (.t 21) (.c (.int .u64 10)), none) ::
    ((some 23), .bin .add false (.c (.int .u64 48)) (.t 22), none) ::
    ((some 24), .cvi .u8 (.t 23), none) ::
    ((some 25), .iaA 20 1 (.t 4) (.t 20), none) ::
    (none, .st ⟨1, false, 1⟩ (.t 25) (.t 24), none) ::
    []))
   (.reg (((some 26), .mv (.t 3), none) ::
    ((some 27), .bin .quo false (.t 26) (.c (.int .u64 10)), none) ::
    ((some 3), .mv (.t 27), none) ::
    []))))))))
  (.seq (.seq (.reg (((some 28), .mv (.t 0), none) ::
    ((some 29), .bin .lss false (.t 28) (.c (.int .i64 0)), none) ::
    []))
  (.cond (.t 29)
   (.seq (.reg (((some 30), .mv (.t 5), none) ::
    ((some 31), .bin .sub false (.t 30) (.c (.int .i64 1)), none) ::
    ((some 5), .mv (.t 31), none) ::
    []))
   (.reg (((some 32), .mv (.t 5), none) ::
    ((some 33), .iaA 20 1 (.t 4) (.t 32), none) ::
    (none, .st ⟨1, false, 1⟩ (.t 33) (.c (.int .u8 45)), none) ::
    [])))
   .skip))
  (.seq (.reg (((some 34), .mv (.t 5), none) ::
    ((some 35), .slA 20 (.t 4) (some (.t 34)) none, none) ::
    ((some 36), .b2s (.t 35), none) ::
    ((some 2), .mv (.t 36), none) ::
    []))
  .ret))))))))
theorem fac30 : Fac Try.prog 30 37 ir30 [.tmp 2] := ⟨by kernel_rfl, ⟨Try.f30, _, Try.func30, rfl, rfl, rfl, by kernel_rfl⟩, by kernel_rfl, by kernel_rfl⟩
def ir31 : IC :=
  (.seq (.reg (((some 2), .mv (.c (.str [])), none) ::
    []))
  (.seq (.seq (.reg (((some 6), .mv (.t 0), none) ::
    ((some 7), .bin .eql false (.t 6) (.c (.int .i64 0)), none) ::
    []))
  (.cond (.t 7)
   (.seq (.reg (((some 2), .mv (.c (.str [48])), none) ::
    []))
   .ret)
   .skip))
  (.seq (.reg (((some 3), .mv (.c .nils), none) ::
    []))
  (.seq (.seq (.reg (((some 8), .mv (.t 0), none) ::
    ((some 4), .mv (.t 8), none) ::
    []))
  (.blk 0 (.loop (.seq (.seq (.reg (((some 9), .mv (.t 4), none) ::
    ((some 10), .bin .neq false (.t 9) (.c (.int .i64 0)), none) ::
    []))
   (.cond (.t 10)
    .skip
    (.exit 0)))
   (.seq (.blk 1 (.seq (.reg (((some 13), .mv (.t 4), none) ::
    ((some 14), .bin .rem false (.t 13) (.c (.int .i64 10)), none) ::
    ((some 5), .mv (.t 14), none) ::
    []))
   (.seq (.seq (.reg (((some 15), .mv (.t 5), none) ::
    ((some 16), .bin .lss false (.t 15) (.c (.int .i64 0)), none) ::
    []))
   (.cond (.t 16)
    (.reg (((some 17), .mv (.t 5), none) ::
    ((some 18), .un .neg (.t 17), none) ::
    ((some 5), .mv (.t 18), none) ::
    []))
    .skip))
   (.reg (((some 19), .mv (.t 5), none) ::
    ((some 20), .bin .add false (.c (.int .i64 48)) (.t 19), none) ::
    ((some 21), .cvi .u8 (.t 20), none) ::
    ((some 22), .bsl 5 1 [(.t 21)], none) ::
    ((some 23), .mv (.t 3), none) ::
    ((some 24), .app 5 1 1 (.t 22) (.t 23), none) ::
    ((some 3), .mv (.t 24), none) ::
    [])))))
   (.reg (((some 11), .mv (.t 4), none) ::
    ((some 12), .bin .quo false (.t 11) (.c (.int .i64 10)), none) ::
    ((some 4), .mv (.t 12), none) ::
    [])))))))
  (.seq (.seq (.reg (((some 25), .mv (.t 0), none) ::
    ((some 26), .bin .lss false (.t 25) (.c (.int .i64 0)), none) ::
    []))
  (.cond (.t 26)
   (.seq (.reg (((some 27), .mv (.t 3), none) ::
    ((some 28), .b2s (.t 27), none) ::
    ((some 29), .bin .add false (.c (.str [45])) (.t 28), none) ::
    ((some 2), .mv (.t 29), none) ::
    []))
   .ret)
   .skip))
  (.seq (.reg (((some 30), .mv (.t 3), none) ::
    ((some 31), .b2s (.t 30), none) ::
    ((some 2), .mv (.t 31), none) ::
    []))
  .ret))))))
theorem fac31 : Fac Try.prog 31 32 ir31 [.tmp 2] := ⟨by kernel_rfl, ⟨Try.f31, _, Try.func31, rfl, rfl, rfl, by kernel_rfl⟩, by kernel_rfl, by kernel_rfl⟩
def ir32 : IC :=
  (.seq (.reg (((some 2), .mv (.c (.int .i64 0)), none) ::
    ((some 3), .mv (.c (.int .i64 0)), none) ::
    []))
  (.seq (.reg (((some 8), .mv (.t 0), none) ::
    ((some 4), .mv (.t 8), none) ::
    []))
  (.seq (.seq (.reg (((some 9), .mv (.t 4), none) ::
    ((some 10), .bin .neq false (.t 9) (.c (.str [])), none) ::
    ((some 11), .mv (.t 10), none) ::
    ((some 12), .mv (.t 4), (some (11, true))) ::
    ((some 13), .ixS (.t 12) (.c (.int .i64 0)), (some (11, true))) ::
    ((some 14), .bin .eql false (.t 13) (.c (.int .u8 45)), (some (11, true))) ::
    ((some 15), .pick (.t 11) (.t 14) (.c (.bool false)), none) ::
    []))
  (.cond (.t 15)
   (.reg (((some 16), .mv (.t 4), none) ::
    ((some 17), .slS (.t 16) (some (.c (.int .i64 1))) none, none) ::
    ((some 4), .mv (.t 17), none) ::
    []))
   .skip))
  (.seq (.seq (.reg (((some 18), .mv (.t 4), none) ::
    ((some 19), .bin .eql false (.t 18) (.c (.str [])), none) ::
    ((some 20), .mv (.t 19), none) ::
    ((some 21), .mv (.t 4), (some (20, false))) ::
    ((some 22), .ixS (.t 21) (.c (.int .i64 0)), (some (20, false))) ::
    ((some 23), .bin .eql false (.t 22) (.c (.int .u8 48)), (some (20, false))) ::
    ((some 24), .mv (.t 23), (some (20, false))) ::
    ((some 25), .mv (.t 0), (some (24, true))) ::
    ((some 26), .bin .neq false (.t 25) (.c (.str [48])), (some (24, true))) ::
    ((some 27), .pick (.t 24) (.t 26) (.c (.bool false)), (some (20, false))) ::
    ((some 28), .pick (.t 20) (.c (.bool true)) (.t 27), none) ::
    []))
  (.cond (.t 28)
   (.seq (.reg (((some 2), .mv (.c (.int .i64 0)), none) ::
    ((some 3), .mv (.c (.int .i64 8)), none) ::
    []))
   .ret)
   .skip))
  (.seq (.reg (((some 5), .mv (.c (.int .i64 0)), none) ::
    []))
  (.seq (.seq (.reg (((some 29), .mv (.t 4), none) ::
    ((some 30), .rng (.t 29), none) ::
    []))
  (.blk 0 (.loop (.seq (.reg (((some 31), .nx (.t 30), none) ::
    ((some 32), .ext 0 (.t 31), none) ::
    []))
   (.seq (.cond (.t 32)
    .skip
    (.exit 0))
   (.blk 1 (.seq (.reg (((some 33), .ext 2 (.t 31), none) ::
    ((some 7), .mv (.t 33), none) ::
    []))
   (.seq (.seq (.reg (((some 34), .mv (.t 7), none) ::
    ((some 35), .bin .lss false (.t 34) (.c (.int .i32 48)), none) ::
    ((some 36), .mv (.t 35), none) ::
    ((some 37), .mv (.t 7), (some (36, false))) ::
    ((some 38), .bin .gtr false (.t 37) (.c (.int .i32 57)), (some (36, false))) ::
    ((some 39), .pick (.t 36) (.c (.bool true)) (.t 38), none) ::
    []))
   (.cond (.t 39)
    (.seq (.reg (((some 2), .mv (.c (.int .i64 0)), none) ::
    ((some 3), .mv (.c (.int .i64 8)), none) ::
    []))
    .ret)
    .skip))
   (.reg (((some 40), .mv (.t 5), none) ::
    ((some 41), .bin .mul false (.c (.int .i64 10)) (.t 40), none) ::
    ((some 42), .mv (.t 7), none) ::
    ((some 43), .bin .sub false (.t 42) (.c (.int .i32 48)), none) ::
    ((some 44), .cvi .i64 (.t 43), none) ::
    ((some 45), .bin .add false (.t 41) (.t 44), none) ::
    ((some 46), .mn (.t 45) (.c (.int .i64 1000001)), none) ::
    ((some 5), .mv (.t 46), none) ::
    []))))))))))
  (.seq (.seq (.reg (((some 47), .mv (.t 5), none) ::
    ((some 48), .bin .gtr false (.t 47) (.c (.int .i64 1000000)), none) ::
    []))
  (.cond (.t 48)
   (.seq (.reg (((some 2), .mv (.c (.int .i64 0)), none) ::
    ((some 3), .mv (.c (.int .i64 1)), none) ::
    []))
   .ret)
   .skip))
  (.seq (.seq (.reg (((some 49), .mv (.t 4), none) ::
    ((some 50), .lenS (.t 49), none) ::
    ((some 51), .mv (.t 0), none) ::
    ((some 52), .lenS (.t 51), none) ::
    ((some 53), .bin .lss false (.t 50) (.t 52), none) ::
    []))
  (.cond (.t 53)
   (.reg (((some 54), .mv (.t 5), none) ::
    ((some 55), .un .neg (.t 54), none) ::
    ((some 5), .mv (.t 55), none) ::
    []))
   .skip))
  (.seq (.reg (((some 56), .mv (.t 5), none) ::
    ((some 2), .mv (.t 56), none) ::
    ((some 3), .mv (.c (.int .i64 0)), none) ::
    []))
  .ret)))))))))
theorem fac32 : Fac Try.prog 32 57 ir32 [.tmp 2, .tmp 3] := ⟨by kernel_rfl, ⟨Try.f32, _, Try.func32, rfl, rfl, rfl, by kernel_rfl⟩, by kernel_rfl, by kernel_rfl⟩
def ir33 : IC :=
  (.seq (.reg (((some 2), .mv (.c (.int .i64 0)), none) ::
    ((some 3), .mv (.c (.int .i64 0)), none) ::
    []))
  (.seq (.reg (((some 8), .mv (.t 0), none) ::
    ((some 4), .mv (.t 8), none) ::
    []))
  (.seq (.seq (.reg (((some 9), .mv (.t 0), none) ::
    ((some 10), .lenS (.t 9), none) ::
    ((some 11), .bin .gtr false (.t 10) (.c (.int .i64 0)), none) ::
    ((some 12), .mv (.t 11), none) ::
    ((some 13), .mv (.t 0), (some (12, true))) ::
    ((some 14), .ixS (.t 13) (.c (.int .i64 0)), (some (12, true))) ::
    ((some 15), .bin .eql false (.t 14) (.c (.int .u8 45)), (some (12, true))) ::
    ((some 16), .pick (.t 12) (.t 15) (.c (.bool false)), none) ::
    []))
  (.cond (.t 16)
   (.reg (((some 17), .mv (.t 0), none) ::
    ((some 18), .slS (.t 17) (some (.c (.int .i64 1))) none, none) ::
    ((some 4), .mv (.t 18), none) ::
    []))
   .skip))
  (.seq (.seq (.reg (((some 19), .mv (.t 4), none) ::
    ((some 20), .bin .eql false (.t 19) (.c (.str [])), none) ::
    ((some 21), .mv (.t 20), none) ::
    ((some 22), .mv (.t 4), (some (21, false))) ::
    ((some 23), .ixS (.t 22) (.c (.int .i64 0)), (some (21, false))) ::
    ((some 24), .bin .eql false (.t 23) (.c (.int .u8 48)), (some (21, false))) ::
    ((some 25), .mv (.t 24), (some (21, false))) ::
    ((some 26), .mv (.t 4), (some (25, true))) ::
    ((some 27), .lenS (.t 26), (some (25, true))) ::
    ((some 28), .bin .gtr false (.t 27) (.c (.int .i64 1)), (some (25, true))) ::
    ((some 29), .mv (.t 28), (some (25, true))) ::
    ((some 30), .mv (.t 0), (some (29, false))) ::
    ((some 31), .lenS (.t 30), (some (29, false))) ::
    ((some 32), .bin .gtr false (.t 31) (.c (.int .i64 1)), (some (29, false))) ::
    ((some 33), .pick (.t 29) (.c (.bool true)) (.t 32), (some (25, true))) ::
    ((some 34), .pick (.t 25) (.t 33) (.c (.bool false)), (some (21, false))) ::
    ((some 35), .pick (.t 21) (.c (.bool true)) (.t 34), none) ::
    []))
  (.cond (.t 35)
   (.seq (.reg (((some 2), .mv (.c (.int .i64 0)), none) ::
    ((some 3), .mv (.c (.int .i64 8)), none) ::
    []))
   .ret)
   .skip))
  (.seq (.seq (.reg (((some 5), .mv (.c (.int .i64 0)), none) ::
    []))
  (.blk 0 (.loop (.seq (.seq (.reg (((some 36), .mv (.t 5), none) ::
    ((some 37), .mv (.t 4), none) ::
    ((some 38), .lenS (.t 37), none) ::
    ((some 39), .bin .lss false (.t 36) (.t 38), none) ::
    []))
   (.cond (.t 39)
    .skip
    (.exit 0)))
   (.seq (.blk 1 (.seq (.reg (((some 42), .mv (.t 4), none) ::
    ((some 43), .mv (.t 5), none) ::
    ((some 44), .ixS (.t 42) (.t 43), none) ::
    ((some 45), .bin .lss false (.t 44) (.c (.int .u8 48)), none) ::
    ((some 46), .mv (.t 45), none) ::
    ((some 47), .mv (.t 4), (some (46, false))) ::
    ((some 48), .mv (.t 5), (some (46, false))) ::
    ((some 49), .ixS (.t 47) (.t 48), (some (46, false))) ::
    ((some 50), .bin .gtr false (.t 49) (.c (.int .u8 57)), (some (46, false))) ::
    ((some 51), .pick (.t 46) (.c (.bool true)) (.t 50), none) ::
    []))
   (.cond (.t 51)
    (.seq (.reg (((some 2), .mv (.c (.int .i64 0)), none) ::
    ((some 3), .mv (.c (.int .i64 8)), none) ::
    []))
    .ret)
    .skip)))
   (.reg (((some 40), .mv (.t 5), none) ::
    ((some 41), .bin .add false (.t 40) (.c (.int .i64 1)), none) ::
    ((some 5), .mv (.t 41), none) ::
    [])))))))
  (.seq (.reg (((some 6), .mv (.c (.int .i64 0)), none) ::
    []))
  (.seq (.seq (.reg (((some 7), .mv (.c (.int .i64 0)), none) ::
    []))
  (.blk 2 (.loop (.seq (.seq (.reg (((some 52), .mv (.t 7), none) ::
    ((some 53), .mv (.t 4), none) ::
    ((some 54), .lenS (.t 53), none) ::
    ((some 55), .bin .lss false (.t 52) (.t 54), none) ::
    []))
   (.cond (.t 55)
    .skip
    (.exit 2)))
   (.seq (.blk 3 (.seq (.reg (((some 58), .mv (.t 6), none) ::
    ((some 59), .bin .mul false (.c (.int .i64 10)) (.t 58), none) ::
    ((some 60), .mv (.t 4), none) ::
    ((some 61), .mv (.t 7), none) ::
    ((some 62), .ixS (.t 60) (.t 61), none) ::
    ((some 63), .bin .sub false (.t 62) (.c (.int .u8 48)), none) ::
    ((some 64), .cvi .i64 (.t 63), none) ::
    ((some 65), .bin .add false (.t 59) (.t 64), none) ::
    ((some 6), .mv (.t 65), none) ::
    []))
   (.seq (.reg (((some 66), .mv (.t 6), none) ::
    ((some 67), .bin .gtr false (.t 66) (.c (.int .i64 1000000)), none) ::
    []))
   (.cond (.t 67)
    (.seq (.reg (((some 2), .mv (.c (.int .i64 0)), none) ::
    ((some 3), .mv (.c (.int .i64 1)), none) ::
    []))
    .ret)
    .skip))))
   (.reg (((some 56), .mv (.t 7), none) ::
    ((some 57), .bin .add false (.t 56) (.c (.int .i64 1)), none) ::
    ((some 7), .mv (.t 57), none) ::
    [])))))))
  (.seq (.seq (.reg (((some 68), .mv (.t 0), none) ::
    ((some 69), .lenS (.t 68), none) ::
    ((some 70), .mv (.t 4), none) ::
    ((some 71), .lenS (.t 70), none) ::
    ((some 72), .bin .gtr false (.t 69) (.t 71), none) ::
    []))
  (.cond (.t 72)
   (.reg (((some 73), .mv (.t 6), none) ::
    ((some 74), .un .neg (.t 73), none) ::
    ((some 6), .mv (.t 74), none) ::
    []))
   .skip))
  (.seq (.reg (((some 75), .mv (.t 6), none) ::
    ((some 2), .mv (.t 75), none) ::
    ((some 3), .mv (.c (.int .i64 0)), none) ::
    []))
  .ret)))))))))
theorem fac33 : Fac Try.prog 33 76 ir33 [.tmp 2, .tmp 3] := ⟨by kernel_rfl, ⟨Try.f33, _, Try.func33, rfl, rfl, rfl, by kernel_rfl⟩, by kernel_rfl, by kernel_rfl⟩
def ir34 : IC :=
  (.seq (.reg (((some 4), .mv (.c (.str [])), none) ::
    ((some 5), .mv (.c (.int .i64 0)), none) ::
    []))
  (.seq (.reg (((some 9), .mv (.t 0), none) ::
    ((some 10), .call (.f 41) [(.t 9)], none) ::
    ((some 6), .mv (.t 10), none) ::
    []))
  (.seq (.reg (((some 12), .mv (.t 1), none) ::
    ((some 13), .mv (.t 6), none) ::
    ((some 14), .lenL (.t 13), none) ::
    ((some 15), .call (.f 38) [(.t 12), (.t 14)], none) ::
    ((some 11), .mv (.t 15), none) ::
    ((some 16), .ext 0 (.t 11), none) ::
    ((some 17), .ext 1 (.t 11), none) ::
    ((some 7), .mv (.t 16), none) ::
    ((some 8), .mv (.t 17), none) ::
    []))
  (.seq (.seq (.reg (((some 18), .mv (.t 8), none) ::
    ((some 19), .un .not (.t 18), none) ::
    []))
  (.cond (.t 19)
   (.seq (.reg (((some 4), .mv (.c (.str [])), none) ::
    ((some 5), .mv (.c (.int .i64 1)), none) ::
    []))
   .ret)
   .skip))
  (.seq (.reg (((some 20), .mv (.t 6), none) ::
    ((some 21), .mv (.t 7), none) ::
    ((some 22), .iaS 1 (.t 20) (.t 21), none) ::
    ((some 23), .ld ⟨1, false, 16⟩ (.t 22), none) ::
    ((some 4), .mv (.t 23), none) ::
    ((some 5), .mv (.c (.int .i64 0)), none) ::
    []))
  .ret)))))
theorem fac34 : Fac Try.prog 34 24 ir34 [.tmp 4, .tmp 5] := ⟨by kernel_rfl, ⟨Try.f34, _, Try.func34, rfl, rfl, rfl, by kernel_rfl⟩, by kernel_rfl, by kernel_rfl⟩
def ir35 : IC :=
  (.seq (.reg (((some 4), .mv (.c (.str [])), none) ::
    ((some 5), .mv (.c (.int .i64 0)), none) ::
    []))
  (.seq (.reg (((some 8), .mv (.t 0), none) ::
    ((some 9), .call (.f 42) [(.t 8)], none) ::
    ((some 6), .mv (.t 9), none) ::
    []))
  (.seq (.reg (((some 10), .mv (.t 1), none) ::
    ((some 11), .mv (.t 6), none) ::
    ((some 12), .lenL (.t 11), none) ::
    ((some 13), .call (.f 39) [(.t 10), (.t 12)], none) ::
    ((some 7), .mv (.t 13), none) ::
    []))
  (.seq (.seq (.reg (((some 14), .mv (.t 7), none) ::
    ((some 15), .bin .lss false (.t 14) (.c (.int .i64 0)), none) ::
    []))
  (.cond (.t 15)
   (.seq (.reg (((some 4), .mv (.c (.str [])), none) ::
    ((some 5), .mv (.c (.int .i64 1)), none) ::
    []))
   .ret)
   .skip))
  (.seq (.reg (((some 16), .mv (.t 6), none) ::
    ((some 17), .mv (.t 7), none) ::
    ((some 18), .iaS 1 (.t 16) (.t 17), none) ::
    ((some 19), .ld ⟨1, false, 16⟩ (.t 18), none) ::
    ((some 4), .mv (.t 19), none) ::
    ((some 5), .mv (.c (.int .i64 0)), none) ::
    []))
  .ret)))))
theorem fac35 : Fac Try.prog 35 20 ir35 [.tmp 4, .tmp 5] := ⟨by kernel_rfl, ⟨Try.f35, _, Try.func35, rfl, rfl, rfl, by kernel_rfl⟩, by kernel_rfl, by kernel_rfl⟩
def ir36 : IC :=
  (.seq (.reg (((some 6), .mv (.c (.str [])), none) ::
    []))
  (.seq (.reg (((some 10), .mv (.t 0), none) ::
    ((some 11), .s2b 5 (.t 10), none) ::
    ((some 7), .mv (.t 11), none) ::
    []))
  (.seq (.seq (.reg (((some 12), .mv (.t 7), none) ::
    ((some 13), .lenL (.t 12), none) ::
    ((some 14), .mv (.c (.int .i64 0)), none) ::
    []))
  (.blk 0 (.loop (.seq (.reg (((some 15), .bin .lss false (.t 14) (.t 13), none) ::
    []))
   (.seq (.cond (.t 15)
    .skip
    (.exit 0))
   (.seq (.blk 1 (.seq (.reg (((some 16), .mv (.t 14), none) ::
    ((some 17), .iaS 1 (.t 12) (.t 14), none) ::
    ((some 18), .ld ⟨1, false, 1⟩ (.t 17), none) ::
    ((some 8), .mv (.t 16), none) ::
    ((some 9), .mv (.t 18), none) ::
    []))
   (.seq (.reg (((some 19), .mv (.t 9), none) ::
    ((some 20), .mv (.t 1), none) ::
    ((some 21), .bin .geq false (.t 19) (.t 20), none) ::
    ((some 22), .mv (.t 21), none) ::
    ((some 23), .mv (.t 9), (some (22, true))) ::
    ((some 24), .mv (.t 2), (some (22, true))) ::
    ((some 25), .bin .leq false (.t 23) (.t 24), (some (22, true))) ::
    ((some 26), .pick (.t 22) (.t 25) (.c (.bool false)), none) ::
    []))
   (.cond (.t 26)
    (.reg (((some 27), .mv (.t 7), none) ::
    ((some 28), .mv (.t 8), none) ::
    ((some 29), .mv (.t 9), none) ::
    ((some 30), .bin .xor false (.t 29) (.c (.int .u8 32)), none) ::
    ((some 31), .iaS 1 (.t 27) (.t 28), none) ::
    (none, .st ⟨1, false, 1⟩ (.t 31) (.t 30), none) ::
    []))
    .skip))))
   (.reg (((some 32), .bin .add false (.t 14) (.c (.int .i64 1)), none) ::
    ((some 14), .mv (.t 32), none) ::
    []))))))))
  (.seq (.reg (((some 33), .mv (.t 7), none) ::
    ((some 34), .b2s (.t 33), none) ::
    ((some 6), .mv (.t 34), none) ::
    []))
  .ret))))
theorem fac36 : Fac Try.prog 36 35 ir36 [.tmp 6] := ⟨by kernel_rfl, ⟨Try.f36, _, Try.func36, rfl, rfl, rfl, by kernel_rfl⟩, by kernel_rfl, by kernel_rfl⟩
def ir37 : IC :=
  (.seq (.reg (((some 8), .mv (.c (.str [])), none) ::
    []))
  (.seq (.reg (((some 9), .mv (.c .nils), none) ::
    []))
  (.seq (.seq (.reg (((some 10), .mv (.c (.int .i64 0)), none) ::
    []))
  (.blk 0 (.loop (.seq (.seq (.reg (((some 12), .mv (.t 10), none) ::
    ((some 13), .mv (.t 0), none) ::
    ((some 14), .lenS (.t 13), none) ::
    ((some 15), .bin .lss false (.t 12) (.t 14), none) ::
    []))
   (.cond (.t 15)
    .skip
    (.exit 0)))
   (.seq (.blk 1 (.seq (.reg (((some 18), .mv (.t 0), none) ::
    ((some 19), .mv (.t 10), none) ::
    ((some 20), .ixS (.t 18) (.t 19), none) ::
    ((some 11), .mv (.t 20), none) ::
    []))
   (.seq (.seq (.reg (((some 21), .mv (.t 11), none) ::
    ((some 22), .mv (.t 1), none) ::
    ((some 23), .bin .geq false (.t 21) (.t 22), none) ::
    ((some 24), .mv (.t 23), none) ::
    ((some 25), .mv (.t 11), (some (24, true))) ::
    ((some 26), .mv (.t 2), (some (24, true))) ::
    ((some 27), .bin .leq false (.t 25) (.t 26), (some (24, true))) ::
    ((some 28), .pick (.t 24) (.t 27) (.c (.bool false)), none) ::
    []))
   (.cond (.t 28)
    (.reg (((some 29), .mv (.t 11), none) ::
    ((some 30), .cvi .i64 (.t 29), none) ::
    ((some 31), .mv (.t 3), none) ::
    ((some 32), .bin .add false (.t 30) (.t 31), none) ::
    ((some 33), .cvi .u8 (.t 32), none) ::
    ((some 11), .mv (.t 33), none) ::
    []))
    .skip))
   (.reg (((some 34), .mv (.t 9), none) ::
    ((some 35), .mv (.t 11), none) ::
    ((some 36), .bsl 5 1 [(.t 35)], none) ::
    ((some 37), .app 5 1 1 (.t 34) (.t 36), none) ::
    ((some 9), .mv (.t 37), none) ::
    [])))))
   (.reg (((some 16), .mv (.t 10), none) ::
    ((some 17), .bin .add false (.t 16) (.c (.int .i64 1)), none) ::
    ((some 10), .mv (.t 17), none) ::
    [])))))))
  (.seq (.reg (((some 38), .mv (.t 9), none) ::
    ((some 39), .b2s (.t 38), none) ::
    ((some 8), .mv (.t 39), none) ::
    []))
  .ret))))
theorem fac37 : Fac Try.prog 37 40 ir37 [.tmp 8] := ⟨by kernel_rfl, ⟨Try.f37, _, Try.func37, rfl, rfl, rfl, by kernel_rfl⟩, by kernel_rfl, by kernel_rfl⟩
def ir38 : IC :=
  (.seq (.reg (((some 4), .mv (.c (.int .i64 0)), none) ::
    ((some 5), .mv (.c (.bool false)), none) ::
    []))
  (.seq (.seq (.reg (((some 6), .mv (.t 0), none) ::
    ((some 7), .bin .lss false (.t 6) (.c (.int .i64 0)), none) ::
    ((some 8), .mv (.t 7), none) ::
    ((some 9), .mv (.t 0), (some (8, true))) ::
    ((some 10), .mv (.t 1), (some (8, true))) ::
    ((some 11), .un .neg (.t 10), (some (8, true))) ::
    ((some 12), .bin .geq false (.t 9) (.t 11), (some (8, true))) ::
    ((some 13), .pick (.t 8) (.t 12) (.c (.bool false)), none) ::
    []))
  (.cond (.t 13)
   (.seq (.reg (((some 14), .mv (.t 0), none) ::
    ((some 15), .mv (.t 1), none) ::
    ((some 16), .bin .add false (.t 14) (.t 15), none) ::
    ((some 4), .mv (.t 16), none) ::
    ((some 5), .mv (.c (.bool true)), none) ::
    []))
   .ret)
   .skip))
  (.seq (.reg (((some 17), .mv (.t 0), none) ::
    ((some 18), .mv (.t 0), none) ::
    ((some 19), .bin .geq false (.t 18) (.c (.int .i64 0)), none) ::
    ((some 20), .mv (.t 19), none) ::
    ((some 21), .mv (.t 0), (some (20, true))) ::
    ((some 22), .mv (.t 1), (some (20, true))) ::
    ((some 23), .bin .lss false (.t 21) (.t 22), (some (20, true))) ::
    ((some 24), .pick (.t 20) (.t 23) (.c (.bool false)), none) ::
    ((some 4), .mv (.t 17), none) ::
    ((some 5), .mv (.t 24), none) ::
    []))
  .ret)))
theorem fac38 : Fac Try.prog 38 25 ir38 [.tmp 4, .tmp 5] := ⟨by kernel_rfl, ⟨Try.f38, _, Try.func38, rfl, rfl, rfl, by kernel_rfl⟩, by kernel_rfl, by kernel_rfl⟩
def ir39 : IC :=
  (.seq (.reg (((some 4), .mv (.c (.int .i64 0)), none) ::
    []))
  (.seq (.seq (.reg (((some 5), .mv (.t 0), none) ::
    ((some 6), .bin .geq false (.t 5) (.c (.int .i64 0)), none) ::
    ((some 7), .mv (.t 6), none) ::
    ((some 8), .mv (.t 0), (some (7, true))) ::
    ((some 9), .mv (.t 1), (some (7, true))) ::
    ((some 10), .bin .lss false (.t 8) (.t 9), (some (7, true))) ::
    ((some 11), .pick (.t 7) (.t 10) (.c (.bool false)), none) ::
    []))
  (.cond (.t 11)
   (.seq (.reg (((some 12), .mv (.t 0), none) ::
    ((some 4), .mv (.t 12), none) ::
    []))
   .ret)
   .skip))
  (.seq (.seq (.reg (((some 13), .mv (.t 0), none) ::
    ((some 14), .bin .lss false (.t 13) (.c (.int .i64 0)), none) ::
    ((some 15), .mv (.t 14), none) ::
    ((some 16), .mv (.t 0), (some (15, true))) ::
    ((some 17), .mv (.t 1), (some (15, true))) ::
    ((some 18), .un .neg (.t 17), (some (15, true))) ::
    ((some 19), .bin .geq false (.t 16) (.t 18), (some (15, true))) ::
    ((some 20), .pick (.t 15) (.t 19) (.c (.bool false)), none) ::
    []))
  (.cond (.t 20)
   (.seq (.reg (((some 21), .mv (.t 1), none) ::
    ((some 22), .mv (.t 0), none) ::
    ((some 23), .bin .add false (.t 21) (.t 22), none) ::
    ((some 4), .mv (.t 23), none) ::
    []))
   .ret)
   .skip))
  (.seq (.reg (((some 4), .mv (.c (.int .i64 (-1))), none) ::
    []))
  .ret))))
theorem fac39 : Fac Try.prog 39 24 ir39 [.tmp 4] := ⟨by kernel_rfl, ⟨Try.f39, _, Try.func39, rfl, rfl, rfl, by kernel_rfl⟩, by kernel_rfl, by kernel_rfl⟩
def ir40 : IC :=
  (.seq (.reg (((some 6), .mv (.c (.bool false)), none) ::
    []))
  (.seq (.reg (((some 7), .mv (.t 2), none) ::
    ((some 8), .mv (.t 1), none) ::
    ((some 9), .lenS (.t 8), none) ::
    ((some 10), .bin .add false (.t 7) (.t 9), none) ::
    ((some 11), .mv (.t 0), none) ::
    ((some 12), .lenS (.t 11), none) ::
    ((some 13), .bin .leq false (.t 10) (.t 12), none) ::
    ((some 14), .mv (.t 13), none) ::
    ((some 15), .mv (.t 0), (some (14, true))) ::
    ((some 16), .mv (.t 2), (some (14, true))) ::
    ((some 17), .mv (.t 2), (some (14, true))) ::
    ((some 18), .mv (.t 1), (some (14, true))) ::
    ((some 19), .lenS (.t 18), (some (14, true))) ::
    ((some 20), .bin .add false (.t 17) (.t 19), (some (14, true))) ::
    ((some 21), .slS (.t 15) (some (.t 16)) (some (.t 20)), (some (14, true))) ::
    ((some 22), .mv (.t 1), (some (14, true))) ::
    ((some 23), .bin .eql false (.t 21) (.t 22), (some (14, true))) ::
    ((some 24), .pick (.t 14) (.t 23) (.c (.bool false)), none) ::
    ((some 6), .mv (.t 24), none) ::
    []))
  .ret))
theorem fac40 : Fac Try.prog 40 25 ir40 [.tmp 6] := ⟨by kernel_rfl, ⟨Try.f40, _, Try.func40, rfl, rfl, rfl, by kernel_rfl⟩, by kernel_rfl, by kernel_rfl⟩
def ir41 : IC :=
  (.seq (.reg (((some 2), .mv (.c .nils), none) ::
    []))
  (.seq (.reg (((some 3), .mv (.c .nils), none) ::
    []))
  (.seq (.reg (((some 4), .mv (.c (.int .i64 (-1))), none) ::
    []))
  (.seq (.seq (.reg (((some 7), .mv (.t 0), none) ::
    ((some 8), .rng (.t 7), none) ::
    []))
  (.blk 0 (.loop (.seq (.reg (((some 9), .nx (.t 8), none) ::
    ((some 10), .ext 0 (.t 9), none) ::
    []))
   (.seq (.cond (.t 10)
    .skip
    (.exit 0))
   (.blk 1 (.seq (.reg (((some 11), .ext 1 (.t 9), none) ::
    ((some 12), .ext 2 (.t 9), none) ::
    ((some 5), .mv (.t 11), none) ::
    ((some 6), .mv (.t 12), none) ::
    []))
   (.blk 2 (.seq (.reg (((some 14), .mv (.t 6), none) ::
    ((some 15), .bin .eql false (.t 14) (.c (.int .i32 32)), none) ::
    ((some 16), .mv (.t 15), none) ::
    ((some 17), .mv (.t 4), (some (16, true))) ::
    ((some 18), .bin .geq false (.t 17) (.c (.int .i64 0)), (some (16, true))) ::
    ((some 19), .pick (.t 16) (.t 18) (.c (.bool false)), none) ::
    ((some 13), .mv (.t 19), none) ::
    []))
   (.cond (.t 13)
    (.seq (.reg (((some 20), .mv (.t 3), none) ::
    ((some 21), .mv (.t 0), none) ::
    ((some 22), .mv (.t 4), none) ::
    ((some 23), .mv (.t 5), none) ::
    ((some 24), .slS (.t 21) (some (.t 22)) (some (.t 23)), none) ::
    ((some 25), .bsl 9 1 [(.t 24)], none) ::
    ((some 26), .app 9 1 16 (.t 20) (.t 25), none) ::
    ((some 3), .mv (.t 26), none) ::
    []))
    (.reg (((some 4), .mv (.c (.int .i64 (-1))), none) ::
    [])))
    (.seq (.reg (((some 28), .mv (.t 6), none) ::
    ((some 29), .bin .neq false (.t 28) (.c (.int .i32 32)), none) ::
    ((some 30), .mv (.t 29), none) ::
    ((some 31), .mv (.t 4), (some (30, true))) ::
    ((some 32), .bin .lss false (.t 31) (.c (.int .i64 0)), (some (30, true))) ::
    ((some 33), .pick (.t 30) (.t 32) (.c (.bool false)), none) ::
    ((some 27), .mv (.t 33), none) ::
    []))
    (.cond (.t 27)
     (.reg (((some 34), .mv (.t 5), none) ::
    ((some 4), .mv (.t 34), none) ::
    []))
     .skip))))))))))))
  (.seq (.seq (.reg (((some 35), .mv (.t 4), none) ::
    ((some 36), .bin .geq false (.t 35) (.c (.int .i64 0)), none) ::
    []))
  (.cond (.t 36)
   (.reg (((some 37), .mv (.t 3), none) ::
    ((some 38), .mv (.t 0), none) ::
    ((some 39), .mv (.t 4), none) ::
    ((some 40), .slS (.t 38) (some (.t 39)) none, none) ::
    ((some 41), .bsl 9 1 [(.t 40)], none) ::
    ((some 42), .app 9 1 16 (.t 37) (.t 41), none) ::
    ((some 3), .mv (.t 42), none) ::
    []))
   .skip))
  (.seq (.reg (((some 43), .mv (.t 3), none) ::
    ((some 2), .mv (.t 43), none) ::
    []))
  .ret))))))
theorem fac41 : Fac Try.prog 41 44 ir41 [.tmp 2] := ⟨by kernel_rfl, ⟨Try.f41, _, Try.func41, rfl, rfl, rfl, by kernel_rfl⟩, by kernel_rfl, by kernel_rfl⟩
def ir42 : IC :=
  (.seq (.reg (((some 2), .mv (.c .nils), none) ::
    []))
  (.seq (.reg (((some 3), .mv (.c .nils), none) ::
    []))
  (.seq (.seq (.reg (((some 4), .mv (.c (.int .i64 0)), none) ::
    []))
  (.blk 0 (.loop (.seq (.seq (.reg (((some 6), .mv (.t 4), none) ::
    ((some 7), .mv (.t 0), none) ::
    ((some 8), .lenS (.t 7), none) ::
    ((some 9), .bin .lss false (.t 6) (.t 8), none) ::
    []))
   (.cond (.t 9)
    .skip
    (.exit 0)))
   (.blk 1 (.seq (.reg (((some 10), .mv (.t 4), none) ::
    ((some 5), .mv (.t 10), none) ::
    []))
   (.seq (.blk 2 (.loop (.seq (.seq (.reg (((some 11), .mv (.t 5), none) ::
    ((some 12), .mv (.t 0), none) ::
    ((some 13), .lenS (.t 12), none) ::
    ((some 14), .bin .lss false (.t 11) (.t 13), none) ::
    ((some 15), .mv (.t 14), none) ::
    ((some 16), .mv (.t 0), (some (15, true))) ::
    ((some 17), .mv (.t 5), (some (15, true))) ::
    ((some 18), .ixS (.t 16) (.t 17), (some (15, true))) ::
    ((some 19), .bin .neq false (.t 18) (.c (.int .u8 32)), (some (15, true))) ::
    ((some 20), .pick (.t 15) (.t 19) (.c (.bool false)), none) ::
    []))
    (.cond (.t 20)
     .skip
     (.exit 2)))
    (.blk 3 (.reg (((some 21), .mv (.t 5), none) ::
    ((some 22), .bin .add false (.t 21) (.c (.int .i64 1)), none) ::
    ((some 5), .mv (.t 22), none) ::
    []))))))
   (.seq (.seq (.reg (((some 23), .mv (.t 5), none) ::
    ((some 24), .mv (.t 4), none) ::
    ((some 25), .bin .gtr false (.t 23) (.t 24), none) ::
    []))
   (.cond (.t 25)
    (.reg (((some 26), .mv (.t 3), none) ::
    ((some 27), .mv (.t 0), none) ::
    ((some 28), .mv (.t 4), none) ::
    ((some 29), .mv (.t 5), none) ::
    ((some 30), .slS (.t 27) (some (.t 28)) (some (.t 29)), none) ::
    ((some 31), .bsl 9 1 [(.t 30)], none) ::
    ((some 32), .app 9 1 16 (.t 26) (.t 31), none) ::
    ((some 3), .mv (.t 32), none) ::
    []))
    .skip))
   (.reg (((some 33), .mv (.t 5), none) ::
    ((some 34), .bin .add false (.t 33) (.c (.int .i64 1)), none) ::
    ((some 4), .mv (.t 34), none) ::
    []))))))))))
  (.seq (.reg (((some 35), .mv (.t 3), none) ::
    ((some 2), .mv (.t 35), none) ::
    []))
  .ret))))
theorem fac42 : Fac Try.prog 42 36 ir42 [.tmp 2] := ⟨by kernel_rfl, ⟨Try.f42, _, Try.func42, rfl, rfl, rfl, by kernel_rfl⟩, by kernel_rfl, by kernel_rfl⟩
end Go.Proofs.Ytamckclacocifaa
