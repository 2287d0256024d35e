/- V-code of the seat's functions, printed by vigen.py. -/
import Derived.Test.YtcnhokifbgbegaaViSound
namespace Go.Vi.Code

/-- loop.example/collabdoc/laws.FnExactCommonLog -/
def v3 : VFunc := ⟨0, [.tmp 4],
 .seq (
 .reg [⟨some 4, .mv (.c (.bool false)), none⟩]) (
 .seq (
 .reg [⟨some 5, .mv (.c (.int .i64 1048576)), none⟩]) (
 .seq (
 .reg [⟨some 14, .mv (.t 0), none⟩,
 ⟨some 15, .mv (.t 5), none⟩,
 ⟨some 16, .call 15 [] none [(.t 14), (.t 15)], none⟩,
 ⟨some 5, .mv (.t 16), none⟩]) (
 .seq (
 .seq (
 .reg [⟨some 17, .mv (.t 5), none⟩,
 ⟨some 18, .bin .lss (.t 17) (.c (.int .i64 0)), none⟩]) (
 .cond (.t 18) (
 .seq (
 .reg [⟨some 4, .mv (.c (.bool true)), none⟩]) (
 .ret)) (
 .skip))) (
 .seq (
 .reg [⟨some 19, .mv (.t 1), none⟩,
 ⟨some 20, .mv (.t 5), none⟩,
 ⟨some 21, .call 15 [] none [(.t 19), (.t 20)], none⟩,
 ⟨some 5, .mv (.t 21), none⟩]) (
 .seq (
 .seq (
 .reg [⟨some 22, .mv (.t 5), none⟩,
 ⟨some 23, .bin .lss (.t 22) (.c (.int .i64 0)), none⟩]) (
 .cond (.t 23) (
 .seq (
 .reg [⟨some 4, .mv (.c (.bool true)), none⟩]) (
 .ret)) (
 .skip))) (
 .seq (
 .reg [⟨some 24, .mv (.t 0), none⟩,
 ⟨some 25, .call 17 [] none [(.t 24)], none⟩,
 ⟨some 26, .mv (.t 1), none⟩,
 ⟨some 27, .call 17 [] none [(.t 26)], none⟩,
 ⟨some 28, .call 16 [] none [(.t 25), (.t 27)], none⟩,
 ⟨some 6, .mv (.t 28), none⟩]) (
 .seq (
 .reg [⟨some 29, .mv (.t 0), none⟩,
 ⟨some 30, .call 17 [] (some [39]) [(.t 29)], none⟩,
 ⟨some 7, .mv (.t 30), none⟩]) (
 .seq (
 .reg [⟨some 31, .mv (.t 1), none⟩,
 ⟨some 32, .call 17 [] (some [39]) [(.t 31)], none⟩,
 ⟨some 8, .mv (.t 32), none⟩]) (
 .seq (
 .reg [⟨some 33, .mv (.t 7), none⟩,
 ⟨some 34, .mv (.t 8), none⟩,
 ⟨some 35, .call 18 [] (some [39]) [(.t 33), (.t 34)], none⟩,
 ⟨some 9, .mv (.t 35), none⟩]) (
 .seq (
 .seq (
 .reg [⟨some 36, .mv (.t 9), none⟩,
 ⟨some 37, .mv (.t 6), none⟩,
 ⟨some 38, .call 19 [] none [(.t 36), (.t 37)], none⟩,
 ⟨some 39, .not (.t 38), none⟩]) (
 .cond (.t 39) (
 .seq (
 .reg [⟨some 4, .mv (.c (.bool false)), none⟩]) (
 .ret)) (
 .skip))) (
 .seq (
 .seq (
 .reg [⟨some 40, .mv (.t 7), none⟩,
 ⟨some 41, .mv (.t 0), none⟩,
 ⟨some 42, .call 17 [] none [(.t 41)], none⟩,
 ⟨some 43, .call 19 [] none [(.t 40), (.t 42)], none⟩,
 ⟨some 44, .not (.t 43), none⟩]) (
 .cond (.t 44) (
 .seq (
 .reg [⟨some 4, .mv (.c (.bool false)), none⟩]) (
 .ret)) (
 .skip))) (
 .seq (
 .seq (
 .reg [⟨some 45, .mv (.t 8), none⟩,
 ⟨some 46, .mv (.t 1), none⟩,
 ⟨some 47, .call 17 [] none [(.t 46)], none⟩,
 ⟨some 48, .call 19 [] none [(.t 45), (.t 47)], none⟩,
 ⟨some 49, .not (.t 48), none⟩]) (
 .cond (.t 49) (
 .seq (
 .reg [⟨some 4, .mv (.c (.bool false)), none⟩]) (
 .ret)) (
 .skip))) (
 .seq (
 .reg [⟨some 10, .mv (.c (.int .i64 1)), none⟩]) (
 .seq (
 .reg [⟨some 50, .mv (.t 7), none⟩,
 ⟨some 51, .mv (.t 10), none⟩,
 ⟨some 52, .call 20 [true] none [(.t 50), (.t 51)], none⟩,
 ⟨some 10, .mv (.t 52), none⟩]) (
 .seq (
 .reg [⟨some 53, .mv (.t 8), none⟩,
 ⟨some 54, .mv (.t 10), none⟩,
 ⟨some 55, .call 20 [true] none [(.t 53), (.t 54)], none⟩,
 ⟨some 10, .mv (.t 55), none⟩]) (
 .seq (
 .seq (
 .reg [⟨some 56, .mv (.t 10), none⟩,
 ⟨some 57, .bin .lss (.t 56) (.c (.int .i64 0)), none⟩,
 ⟨some 58, .mv (.t 57), none⟩,
 ⟨some 59, .mv (.t 9), some (58, false)⟩,
 ⟨some 60, .mv (.t 6), some (58, false)⟩,
 ⟨some 61, .call 19 [] none [(.t 59), (.t 60)], some (58, false)⟩,
 ⟨some 62, .not (.t 61), some (58, false)⟩,
 ⟨some 63, .pick (.t 58) (.c (.bool true)) (.t 62), none⟩]) (
 .cond (.t 63) (
 .seq (
 .reg [⟨some 4, .mv (.c (.bool false)), none⟩]) (
 .ret)) (
 .skip))) (
 .seq (
 .reg [⟨some 11, .mv (.c (.int .i64 1)), none⟩]) (
 .seq (
 .reg [⟨some 64, .mv (.t 9), none⟩,
 ⟨some 65, .mv (.t 11), none⟩,
 ⟨some 66, .call 20 [true] none [(.t 64), (.t 65)], none⟩,
 ⟨some 11, .mv (.t 66), none⟩]) (
 .seq (
 .reg [⟨some 12, .mv (.c (.int .i64 1)), none⟩]) (
 .seq (
 .reg [⟨some 67, .mv (.t 9), none⟩,
 ⟨some 68, .mv (.t 12), none⟩,
 ⟨some 69, .call 21 [] none [(.t 67), (.t 68)], none⟩,
 ⟨some 12, .mv (.t 69), none⟩]) (
 .seq (
 .seq (
 .reg [⟨some 70, .mv (.t 12), none⟩,
 ⟨some 71, .bin .lss (.t 70) (.c (.int .i64 0)), none⟩]) (
 .cond (.t 71) (
 .seq (
 .reg [⟨some 4, .mv (.c (.bool false)), none⟩]) (
 .ret)) (
 .skip))) (
 .seq (
 .seq (
 .reg [⟨some 72, .mv (.t 12), none⟩,
 ⟨some 73, .mv (.t 11), none⟩,
 ⟨some 74, .bin .neq (.t 72) (.t 73), none⟩]) (
 .cond (.t 74) (
 .seq (
 .reg [⟨some 4, .mv (.c (.bool false)), none⟩]) (
 .ret)) (
 .skip))) (
 .seq (
 .reg [⟨some 75, .mv (.t 0), none⟩,
 ⟨some 76, .call 17 [] none [(.t 75)], none⟩,
 ⟨some 77, .mv (.t 1), none⟩,
 ⟨some 78, .call 17 [] none [(.t 77)], none⟩,
 ⟨some 79, .call 18 [] none [(.t 76), (.t 78)], none⟩,
 ⟨some 13, .mv (.t 79), none⟩]) (
 .seq (
 .seq (
 .reg [⟨some 80, .mv (.t 13), none⟩,
 ⟨some 81, .mv (.t 6), none⟩,
 ⟨some 82, .call 19 [] none [(.t 80), (.t 81)], none⟩,
 ⟨some 83, .not (.t 82), none⟩]) (
 .cond (.t 83) (
 .seq (
 .reg [⟨some 4, .mv (.c (.bool false)), none⟩]) (
 .ret)) (
 .skip))) (
 .seq (
 .reg [⟨some 12, .mv (.c (.int .i64 1)), none⟩]) (
 .seq (
 .reg [⟨some 84, .mv (.t 9), none⟩,
 ⟨some 85, .mv (.t 12), none⟩,
 ⟨some 86, .call 21 [] none [(.t 84), (.t 85)], none⟩,
 ⟨some 12, .mv (.t 86), none⟩]) (
 .seq (
 .seq (
 .reg [⟨some 87, .mv (.t 12), none⟩,
 ⟨some 88, .bin .lss (.t 87) (.c (.int .i64 0)), none⟩]) (
 .cond (.t 88) (
 .seq (
 .reg [⟨some 4, .mv (.c (.bool false)), none⟩]) (
 .ret)) (
 .skip))) (
 .seq (
 .seq (
 .reg [⟨some 89, .mv (.t 12), none⟩,
 ⟨some 90, .mv (.t 11), none⟩,
 ⟨some 91, .bin .neq (.t 89) (.t 90), none⟩]) (
 .cond (.t 91) (
 .seq (
 .reg [⟨some 4, .mv (.c (.bool false)), none⟩]) (
 .ret)) (
 .skip))) (
 .seq (
 .reg [⟨some 4, .mv (.c (.bool true)), none⟩]) (
 .ret))))))))))))))))))))))))))))))⟩
/-- loop.example/collabdoc/laws.FnExactLogDifference -/
def v4 : VFunc := ⟨0, [.tmp 4],
 .seq (
 .reg [⟨some 4, .mv (.c (.bool false)), none⟩]) (
 .seq (
 .reg [⟨some 5, .mv (.c (.int .i64 1048576)), none⟩]) (
 .seq (
 .reg [⟨some 14, .mv (.t 0), none⟩,
 ⟨some 15, .mv (.t 5), none⟩,
 ⟨some 16, .call 15 [] none [(.t 14), (.t 15)], none⟩,
 ⟨some 5, .mv (.t 16), none⟩]) (
 .seq (
 .seq (
 .reg [⟨some 17, .mv (.t 5), none⟩,
 ⟨some 18, .bin .lss (.t 17) (.c (.int .i64 0)), none⟩]) (
 .cond (.t 18) (
 .seq (
 .reg [⟨some 4, .mv (.c (.bool true)), none⟩]) (
 .ret)) (
 .skip))) (
 .seq (
 .reg [⟨some 19, .mv (.t 1), none⟩,
 ⟨some 20, .mv (.t 5), none⟩,
 ⟨some 21, .call 15 [] none [(.t 19), (.t 20)], none⟩,
 ⟨some 5, .mv (.t 21), none⟩]) (
 .seq (
 .seq (
 .reg [⟨some 22, .mv (.t 5), none⟩,
 ⟨some 23, .bin .lss (.t 22) (.c (.int .i64 0)), none⟩]) (
 .cond (.t 23) (
 .seq (
 .reg [⟨some 4, .mv (.c (.bool true)), none⟩]) (
 .ret)) (
 .skip))) (
 .seq (
 .reg [⟨some 24, .mv (.t 0), none⟩,
 ⟨some 25, .call 17 [] none [(.t 24)], none⟩,
 ⟨some 26, .mv (.t 1), none⟩,
 ⟨some 27, .call 17 [] none [(.t 26)], none⟩,
 ⟨some 28, .call 22 [] none [(.t 25), (.t 27)], none⟩,
 ⟨some 6, .mv (.t 28), none⟩]) (
 .seq (
 .reg [⟨some 29, .mv (.t 0), none⟩,
 ⟨some 30, .call 17 [] (some [39]) [(.t 29)], none⟩,
 ⟨some 7, .mv (.t 30), none⟩]) (
 .seq (
 .reg [⟨some 31, .mv (.t 1), none⟩,
 ⟨some 32, .call 17 [] (some [39]) [(.t 31)], none⟩,
 ⟨some 8, .mv (.t 32), none⟩]) (
 .seq (
 .reg [⟨some 33, .mv (.t 7), none⟩,
 ⟨some 34, .mv (.t 8), none⟩,
 ⟨some 35, .call 23 [] (some [39]) [(.t 33), (.t 34)], none⟩,
 ⟨some 9, .mv (.t 35), none⟩]) (
 .seq (
 .seq (
 .reg [⟨some 36, .mv (.t 9), none⟩,
 ⟨some 37, .mv (.t 6), none⟩,
 ⟨some 38, .call 19 [] none [(.t 36), (.t 37)], none⟩,
 ⟨some 39, .not (.t 38), none⟩]) (
 .cond (.t 39) (
 .seq (
 .reg [⟨some 4, .mv (.c (.bool false)), none⟩]) (
 .ret)) (
 .skip))) (
 .seq (
 .seq (
 .reg [⟨some 40, .mv (.t 7), none⟩,
 ⟨some 41, .mv (.t 0), none⟩,
 ⟨some 42, .call 17 [] none [(.t 41)], none⟩,
 ⟨some 43, .call 19 [] none [(.t 40), (.t 42)], none⟩,
 ⟨some 44, .not (.t 43), none⟩]) (
 .cond (.t 44) (
 .seq (
 .reg [⟨some 4, .mv (.c (.bool false)), none⟩]) (
 .ret)) (
 .skip))) (
 .seq (
 .seq (
 .reg [⟨some 45, .mv (.t 8), none⟩,
 ⟨some 46, .mv (.t 1), none⟩,
 ⟨some 47, .call 17 [] none [(.t 46)], none⟩,
 ⟨some 48, .call 19 [] none [(.t 45), (.t 47)], none⟩,
 ⟨some 49, .not (.t 48), none⟩]) (
 .cond (.t 49) (
 .seq (
 .reg [⟨some 4, .mv (.c (.bool false)), none⟩]) (
 .ret)) (
 .skip))) (
 .seq (
 .reg [⟨some 10, .mv (.c (.int .i64 1)), none⟩]) (
 .seq (
 .reg [⟨some 50, .mv (.t 7), none⟩,
 ⟨some 51, .mv (.t 10), none⟩,
 ⟨some 52, .call 20 [true] none [(.t 50), (.t 51)], none⟩,
 ⟨some 10, .mv (.t 52), none⟩]) (
 .seq (
 .reg [⟨some 53, .mv (.t 8), none⟩,
 ⟨some 54, .mv (.t 10), none⟩,
 ⟨some 55, .call 20 [true] none [(.t 53), (.t 54)], none⟩,
 ⟨some 10, .mv (.t 55), none⟩]) (
 .seq (
 .seq (
 .reg [⟨some 56, .mv (.t 10), none⟩,
 ⟨some 57, .bin .lss (.t 56) (.c (.int .i64 0)), none⟩,
 ⟨some 58, .mv (.t 57), none⟩,
 ⟨some 59, .mv (.t 9), some (58, false)⟩,
 ⟨some 60, .mv (.t 6), some (58, false)⟩,
 ⟨some 61, .call 19 [] none [(.t 59), (.t 60)], some (58, false)⟩,
 ⟨some 62, .not (.t 61), some (58, false)⟩,
 ⟨some 63, .pick (.t 58) (.c (.bool true)) (.t 62), none⟩]) (
 .cond (.t 63) (
 .seq (
 .reg [⟨some 4, .mv (.c (.bool false)), none⟩]) (
 .ret)) (
 .skip))) (
 .seq (
 .reg [⟨some 11, .mv (.c (.int .i64 1)), none⟩]) (
 .seq (
 .reg [⟨some 64, .mv (.t 9), none⟩,
 ⟨some 65, .mv (.t 11), none⟩,
 ⟨some 66, .call 20 [true] none [(.t 64), (.t 65)], none⟩,
 ⟨some 11, .mv (.t 66), none⟩]) (
 .seq (
 .reg [⟨some 12, .mv (.c (.int .i64 1)), none⟩]) (
 .seq (
 .reg [⟨some 67, .mv (.t 9), none⟩,
 ⟨some 68, .mv (.t 12), none⟩,
 ⟨some 69, .call 21 [] none [(.t 67), (.t 68)], none⟩,
 ⟨some 12, .mv (.t 69), none⟩]) (
 .seq (
 .seq (
 .reg [⟨some 70, .mv (.t 12), none⟩,
 ⟨some 71, .bin .lss (.t 70) (.c (.int .i64 0)), none⟩]) (
 .cond (.t 71) (
 .seq (
 .reg [⟨some 4, .mv (.c (.bool false)), none⟩]) (
 .ret)) (
 .skip))) (
 .seq (
 .seq (
 .reg [⟨some 72, .mv (.t 12), none⟩,
 ⟨some 73, .mv (.t 11), none⟩,
 ⟨some 74, .bin .neq (.t 72) (.t 73), none⟩]) (
 .cond (.t 74) (
 .seq (
 .reg [⟨some 4, .mv (.c (.bool false)), none⟩]) (
 .ret)) (
 .skip))) (
 .seq (
 .reg [⟨some 75, .mv (.t 0), none⟩,
 ⟨some 76, .call 17 [] none [(.t 75)], none⟩,
 ⟨some 77, .mv (.t 1), none⟩,
 ⟨some 78, .call 17 [] none [(.t 77)], none⟩,
 ⟨some 79, .call 23 [] none [(.t 76), (.t 78)], none⟩,
 ⟨some 13, .mv (.t 79), none⟩]) (
 .seq (
 .seq (
 .reg [⟨some 80, .mv (.t 13), none⟩,
 ⟨some 81, .mv (.t 6), none⟩,
 ⟨some 82, .call 19 [] none [(.t 80), (.t 81)], none⟩,
 ⟨some 83, .not (.t 82), none⟩]) (
 .cond (.t 83) (
 .seq (
 .reg [⟨some 4, .mv (.c (.bool false)), none⟩]) (
 .ret)) (
 .skip))) (
 .seq (
 .reg [⟨some 12, .mv (.c (.int .i64 1)), none⟩]) (
 .seq (
 .reg [⟨some 84, .mv (.t 9), none⟩,
 ⟨some 85, .mv (.t 12), none⟩,
 ⟨some 86, .call 21 [] none [(.t 84), (.t 85)], none⟩,
 ⟨some 12, .mv (.t 86), none⟩]) (
 .seq (
 .seq (
 .reg [⟨some 87, .mv (.t 12), none⟩,
 ⟨some 88, .bin .lss (.t 87) (.c (.int .i64 0)), none⟩]) (
 .cond (.t 88) (
 .seq (
 .reg [⟨some 4, .mv (.c (.bool false)), none⟩]) (
 .ret)) (
 .skip))) (
 .seq (
 .seq (
 .reg [⟨some 89, .mv (.t 12), none⟩,
 ⟨some 90, .mv (.t 11), none⟩,
 ⟨some 91, .bin .neq (.t 89) (.t 90), none⟩]) (
 .cond (.t 91) (
 .seq (
 .reg [⟨some 4, .mv (.c (.bool false)), none⟩]) (
 .ret)) (
 .skip))) (
 .seq (
 .reg [⟨some 4, .mv (.c (.bool true)), none⟩]) (
 .ret))))))))))))))))))))))))))))))⟩
/-- loop.example/collabdoc/laws.FnExactConflicts -/
def v7 : VFunc := ⟨0, [.tmp 4],
 .seq (
 .reg [⟨some 4, .mv (.c (.bool false)), none⟩]) (
 .seq (
 .reg [⟨some 5, .mv (.c (.int .i64 1048576)), none⟩]) (
 .seq (
 .reg [⟨some 14, .mv (.t 0), none⟩,
 ⟨some 15, .mv (.t 5), none⟩,
 ⟨some 16, .call 15 [] none [(.t 14), (.t 15)], none⟩,
 ⟨some 5, .mv (.t 16), none⟩]) (
 .seq (
 .seq (
 .reg [⟨some 17, .mv (.t 5), none⟩,
 ⟨some 18, .bin .lss (.t 17) (.c (.int .i64 0)), none⟩]) (
 .cond (.t 18) (
 .seq (
 .reg [⟨some 4, .mv (.c (.bool true)), none⟩]) (
 .ret)) (
 .skip))) (
 .seq (
 .reg [⟨some 19, .mv (.t 1), none⟩,
 ⟨some 20, .mv (.t 5), none⟩,
 ⟨some 21, .call 15 [] none [(.t 19), (.t 20)], none⟩,
 ⟨some 5, .mv (.t 21), none⟩]) (
 .seq (
 .seq (
 .reg [⟨some 22, .mv (.t 5), none⟩,
 ⟨some 23, .bin .lss (.t 22) (.c (.int .i64 0)), none⟩]) (
 .cond (.t 23) (
 .seq (
 .reg [⟨some 4, .mv (.c (.bool true)), none⟩]) (
 .ret)) (
 .skip))) (
 .seq (
 .reg [⟨some 24, .mv (.t 0), none⟩,
 ⟨some 25, .call 17 [] none [(.t 24)], none⟩,
 ⟨some 26, .mv (.t 1), none⟩,
 ⟨some 27, .call 17 [] none [(.t 26)], none⟩,
 ⟨some 28, .call 32 [] none [(.t 25), (.t 27)], none⟩,
 ⟨some 6, .mv (.t 28), none⟩]) (
 .seq (
 .reg [⟨some 29, .mv (.t 0), none⟩,
 ⟨some 30, .call 17 [] (some [39]) [(.t 29)], none⟩,
 ⟨some 7, .mv (.t 30), none⟩]) (
 .seq (
 .reg [⟨some 31, .mv (.t 1), none⟩,
 ⟨some 32, .call 17 [] (some [39]) [(.t 31)], none⟩,
 ⟨some 8, .mv (.t 32), none⟩]) (
 .seq (
 .reg [⟨some 33, .mv (.t 7), none⟩,
 ⟨some 34, .mv (.t 8), none⟩,
 ⟨some 35, .call 33 [] (some [84]) [(.t 33), (.t 34)], none⟩,
 ⟨some 9, .mv (.t 35), none⟩]) (
 .seq (
 .seq (
 .reg [⟨some 36, .mv (.t 9), none⟩,
 ⟨some 37, .mv (.t 6), none⟩,
 ⟨some 38, .call 34 [] none [(.t 36), (.t 37)], none⟩,
 ⟨some 39, .not (.t 38), none⟩]) (
 .cond (.t 39) (
 .seq (
 .reg [⟨some 4, .mv (.c (.bool false)), none⟩]) (
 .ret)) (
 .skip))) (
 .seq (
 .seq (
 .reg [⟨some 40, .mv (.t 7), none⟩,
 ⟨some 41, .mv (.t 0), none⟩,
 ⟨some 42, .call 17 [] none [(.t 41)], none⟩,
 ⟨some 43, .call 19 [] none [(.t 40), (.t 42)], none⟩,
 ⟨some 44, .not (.t 43), none⟩]) (
 .cond (.t 44) (
 .seq (
 .reg [⟨some 4, .mv (.c (.bool false)), none⟩]) (
 .ret)) (
 .skip))) (
 .seq (
 .seq (
 .reg [⟨some 45, .mv (.t 8), none⟩,
 ⟨some 46, .mv (.t 1), none⟩,
 ⟨some 47, .call 17 [] none [(.t 46)], none⟩,
 ⟨some 48, .call 19 [] none [(.t 45), (.t 47)], none⟩,
 ⟨some 49, .not (.t 48), none⟩]) (
 .cond (.t 49) (
 .seq (
 .reg [⟨some 4, .mv (.c (.bool false)), none⟩]) (
 .ret)) (
 .skip))) (
 .seq (
 .reg [⟨some 10, .mv (.c (.int .i64 1)), none⟩]) (
 .seq (
 .reg [⟨some 50, .mv (.t 7), none⟩,
 ⟨some 51, .mv (.t 10), none⟩,
 ⟨some 52, .call 20 [true] none [(.t 50), (.t 51)], none⟩,
 ⟨some 10, .mv (.t 52), none⟩]) (
 .seq (
 .reg [⟨some 53, .mv (.t 8), none⟩,
 ⟨some 54, .mv (.t 10), none⟩,
 ⟨some 55, .call 20 [true] none [(.t 53), (.t 54)], none⟩,
 ⟨some 10, .mv (.t 55), none⟩]) (
 .seq (
 .seq (
 .reg [⟨some 56, .mv (.t 10), none⟩,
 ⟨some 57, .bin .lss (.t 56) (.c (.int .i64 0)), none⟩,
 ⟨some 58, .mv (.t 57), none⟩,
 ⟨some 59, .mv (.t 9), some (58, false)⟩,
 ⟨some 60, .mv (.t 6), some (58, false)⟩,
 ⟨some 61, .call 34 [] none [(.t 59), (.t 60)], some (58, false)⟩,
 ⟨some 62, .not (.t 61), some (58, false)⟩,
 ⟨some 63, .pick (.t 58) (.c (.bool true)) (.t 62), none⟩]) (
 .cond (.t 63) (
 .seq (
 .reg [⟨some 4, .mv (.c (.bool false)), none⟩]) (
 .ret)) (
 .skip))) (
 .seq (
 .reg [⟨some 11, .mv (.c (.int .i64 1)), none⟩]) (
 .seq (
 .reg [⟨some 64, .mv (.t 9), none⟩,
 ⟨some 65, .mv (.t 11), none⟩,
 ⟨some 66, .call 35 [true] none [(.t 64), (.t 65)], none⟩,
 ⟨some 11, .mv (.t 66), none⟩]) (
 .seq (
 .reg [⟨some 12, .mv (.c (.int .i64 1)), none⟩]) (
 .seq (
 .reg [⟨some 67, .mv (.t 9), none⟩,
 ⟨some 68, .mv (.t 12), none⟩,
 ⟨some 69, .call 36 [] none [(.t 67), (.t 68)], none⟩,
 ⟨some 12, .mv (.t 69), none⟩]) (
 .seq (
 .seq (
 .reg [⟨some 70, .mv (.t 12), none⟩,
 ⟨some 71, .bin .lss (.t 70) (.c (.int .i64 0)), none⟩]) (
 .cond (.t 71) (
 .seq (
 .reg [⟨some 4, .mv (.c (.bool false)), none⟩]) (
 .ret)) (
 .skip))) (
 .seq (
 .seq (
 .reg [⟨some 72, .mv (.t 12), none⟩,
 ⟨some 73, .mv (.t 11), none⟩,
 ⟨some 74, .bin .neq (.t 72) (.t 73), none⟩]) (
 .cond (.t 74) (
 .seq (
 .reg [⟨some 4, .mv (.c (.bool false)), none⟩]) (
 .ret)) (
 .skip))) (
 .seq (
 .reg [⟨some 75, .mv (.t 0), none⟩,
 ⟨some 76, .call 17 [] none [(.t 75)], none⟩,
 ⟨some 77, .mv (.t 1), none⟩,
 ⟨some 78, .call 17 [] none [(.t 77)], none⟩,
 ⟨some 79, .call 33 [] none [(.t 76), (.t 78)], none⟩,
 ⟨some 13, .mv (.t 79), none⟩]) (
 .seq (
 .seq (
 .reg [⟨some 80, .mv (.t 13), none⟩,
 ⟨some 81, .mv (.t 6), none⟩,
 ⟨some 82, .call 34 [] none [(.t 80), (.t 81)], none⟩,
 ⟨some 83, .not (.t 82), none⟩]) (
 .cond (.t 83) (
 .seq (
 .reg [⟨some 4, .mv (.c (.bool false)), none⟩]) (
 .ret)) (
 .skip))) (
 .seq (
 .reg [⟨some 12, .mv (.c (.int .i64 1)), none⟩]) (
 .seq (
 .reg [⟨some 84, .mv (.t 9), none⟩,
 ⟨some 85, .mv (.t 12), none⟩,
 ⟨some 86, .call 36 [] none [(.t 84), (.t 85)], none⟩,
 ⟨some 12, .mv (.t 86), none⟩]) (
 .seq (
 .seq (
 .reg [⟨some 87, .mv (.t 12), none⟩,
 ⟨some 88, .bin .lss (.t 87) (.c (.int .i64 0)), none⟩]) (
 .cond (.t 88) (
 .seq (
 .reg [⟨some 4, .mv (.c (.bool false)), none⟩]) (
 .ret)) (
 .skip))) (
 .seq (
 .seq (
 .reg [⟨some 89, .mv (.t 12), none⟩,
 ⟨some 90, .mv (.t 11), none⟩,
 ⟨some 91, .bin .neq (.t 89) (.t 90), none⟩]) (
 .cond (.t 91) (
 .seq (
 .reg [⟨some 4, .mv (.c (.bool false)), none⟩]) (
 .ret)) (
 .skip))) (
 .seq (
 .reg [⟨some 4, .mv (.c (.bool true)), none⟩]) (
 .ret))))))))))))))))))))))))))))))⟩
/-- loop.example/collabdoc/laws.FnExactAllowedOps -/
def v11 : VFunc := ⟨0, [.tmp 4],
 .seq (
 .reg [⟨some 4, .mv (.c (.bool false)), none⟩]) (
 .seq (
 .reg [⟨some 5, .mv (.c (.int .i64 1048576)), none⟩]) (
 .seq (
 .reg [⟨some 14, .mv (.t 0), none⟩,
 ⟨some 15, .mv (.t 5), none⟩,
 ⟨some 16, .call 15 [] none [(.t 14), (.t 15)], none⟩,
 ⟨some 5, .mv (.t 16), none⟩]) (
 .seq (
 .seq (
 .reg [⟨some 17, .mv (.t 5), none⟩,
 ⟨some 18, .bin .lss (.t 17) (.c (.int .i64 0)), none⟩]) (
 .cond (.t 18) (
 .seq (
 .reg [⟨some 4, .mv (.c (.bool true)), none⟩]) (
 .ret)) (
 .skip))) (
 .seq (
 .reg [⟨some 19, .mv (.t 1), none⟩,
 ⟨some 20, .mv (.t 5), none⟩,
 ⟨some 21, .call 44 [] none [(.t 19), (.t 20)], none⟩,
 ⟨some 5, .mv (.t 21), none⟩]) (
 .seq (
 .seq (
 .reg [⟨some 22, .mv (.t 5), none⟩,
 ⟨some 23, .bin .lss (.t 22) (.c (.int .i64 0)), none⟩]) (
 .cond (.t 23) (
 .seq (
 .reg [⟨some 4, .mv (.c (.bool true)), none⟩]) (
 .ret)) (
 .skip))) (
 .seq (
 .reg [⟨some 24, .mv (.t 0), none⟩,
 ⟨some 25, .call 17 [] none [(.t 24)], none⟩,
 ⟨some 26, .mv (.t 1), none⟩,
 ⟨some 27, .call 46 [] none [(.t 26)], none⟩,
 ⟨some 28, .call 45 [] none [(.t 25), (.t 27)], none⟩,
 ⟨some 6, .mv (.t 28), none⟩]) (
 .seq (
 .reg [⟨some 29, .mv (.t 0), none⟩,
 ⟨some 30, .call 17 [] (some [39]) [(.t 29)], none⟩,
 ⟨some 7, .mv (.t 30), none⟩]) (
 .seq (
 .reg [⟨some 31, .mv (.t 1), none⟩,
 ⟨some 32, .call 46 [] (some [65]) [(.t 31)], none⟩,
 ⟨some 8, .mv (.t 32), none⟩]) (
 .seq (
 .reg [⟨some 33, .mv (.t 7), none⟩,
 ⟨some 34, .mv (.t 8), none⟩,
 ⟨some 35, .call 47 [] (some [39]) [(.t 33), (.t 34)], none⟩,
 ⟨some 9, .mv (.t 35), none⟩]) (
 .seq (
 .seq (
 .reg [⟨some 36, .mv (.t 9), none⟩,
 ⟨some 37, .mv (.t 6), none⟩,
 ⟨some 38, .call 19 [] none [(.t 36), (.t 37)], none⟩,
 ⟨some 39, .not (.t 38), none⟩]) (
 .cond (.t 39) (
 .seq (
 .reg [⟨some 4, .mv (.c (.bool false)), none⟩]) (
 .ret)) (
 .skip))) (
 .seq (
 .seq (
 .reg [⟨some 40, .mv (.t 7), none⟩,
 ⟨some 41, .mv (.t 0), none⟩,
 ⟨some 42, .call 17 [] none [(.t 41)], none⟩,
 ⟨some 43, .call 19 [] none [(.t 40), (.t 42)], none⟩,
 ⟨some 44, .not (.t 43), none⟩]) (
 .cond (.t 44) (
 .seq (
 .reg [⟨some 4, .mv (.c (.bool false)), none⟩]) (
 .ret)) (
 .skip))) (
 .seq (
 .seq (
 .reg [⟨some 45, .mv (.t 8), none⟩,
 ⟨some 46, .mv (.t 1), none⟩,
 ⟨some 47, .call 46 [] none [(.t 46)], none⟩,
 ⟨some 48, .call 48 [] none [(.t 45), (.t 47)], none⟩,
 ⟨some 49, .not (.t 48), none⟩]) (
 .cond (.t 49) (
 .seq (
 .reg [⟨some 4, .mv (.c (.bool false)), none⟩]) (
 .ret)) (
 .skip))) (
 .seq (
 .reg [⟨some 10, .mv (.c (.int .i64 1)), none⟩]) (
 .seq (
 .reg [⟨some 50, .mv (.t 7), none⟩,
 ⟨some 51, .mv (.t 10), none⟩,
 ⟨some 52, .call 20 [true] none [(.t 50), (.t 51)], none⟩,
 ⟨some 10, .mv (.t 52), none⟩]) (
 .seq (
 .reg [⟨some 53, .mv (.t 8), none⟩,
 ⟨some 54, .mv (.t 10), none⟩,
 ⟨some 55, .call 49 [true] none [(.t 53), (.t 54)], none⟩,
 ⟨some 10, .mv (.t 55), none⟩]) (
 .seq (
 .seq (
 .reg [⟨some 56, .mv (.t 10), none⟩,
 ⟨some 57, .bin .lss (.t 56) (.c (.int .i64 0)), none⟩,
 ⟨some 58, .mv (.t 57), none⟩,
 ⟨some 59, .mv (.t 9), some (58, false)⟩,
 ⟨some 60, .mv (.t 6), some (58, false)⟩,
 ⟨some 61, .call 19 [] none [(.t 59), (.t 60)], some (58, false)⟩,
 ⟨some 62, .not (.t 61), some (58, false)⟩,
 ⟨some 63, .pick (.t 58) (.c (.bool true)) (.t 62), none⟩]) (
 .cond (.t 63) (
 .seq (
 .reg [⟨some 4, .mv (.c (.bool false)), none⟩]) (
 .ret)) (
 .skip))) (
 .seq (
 .reg [⟨some 11, .mv (.c (.int .i64 1)), none⟩]) (
 .seq (
 .reg [⟨some 64, .mv (.t 9), none⟩,
 ⟨some 65, .mv (.t 11), none⟩,
 ⟨some 66, .call 20 [true] none [(.t 64), (.t 65)], none⟩,
 ⟨some 11, .mv (.t 66), none⟩]) (
 .seq (
 .reg [⟨some 12, .mv (.c (.int .i64 1)), none⟩]) (
 .seq (
 .reg [⟨some 67, .mv (.t 9), none⟩,
 ⟨some 68, .mv (.t 12), none⟩,
 ⟨some 69, .call 21 [] none [(.t 67), (.t 68)], none⟩,
 ⟨some 12, .mv (.t 69), none⟩]) (
 .seq (
 .seq (
 .reg [⟨some 70, .mv (.t 12), none⟩,
 ⟨some 71, .bin .lss (.t 70) (.c (.int .i64 0)), none⟩]) (
 .cond (.t 71) (
 .seq (
 .reg [⟨some 4, .mv (.c (.bool false)), none⟩]) (
 .ret)) (
 .skip))) (
 .seq (
 .seq (
 .reg [⟨some 72, .mv (.t 12), none⟩,
 ⟨some 73, .mv (.t 11), none⟩,
 ⟨some 74, .bin .neq (.t 72) (.t 73), none⟩]) (
 .cond (.t 74) (
 .seq (
 .reg [⟨some 4, .mv (.c (.bool false)), none⟩]) (
 .ret)) (
 .skip))) (
 .seq (
 .reg [⟨some 75, .mv (.t 0), none⟩,
 ⟨some 76, .call 17 [] none [(.t 75)], none⟩,
 ⟨some 77, .mv (.t 1), none⟩,
 ⟨some 78, .call 46 [] none [(.t 77)], none⟩,
 ⟨some 79, .call 47 [] none [(.t 76), (.t 78)], none⟩,
 ⟨some 13, .mv (.t 79), none⟩]) (
 .seq (
 .seq (
 .reg [⟨some 80, .mv (.t 13), none⟩,
 ⟨some 81, .mv (.t 6), none⟩,
 ⟨some 82, .call 19 [] none [(.t 80), (.t 81)], none⟩,
 ⟨some 83, .not (.t 82), none⟩]) (
 .cond (.t 83) (
 .seq (
 .reg [⟨some 4, .mv (.c (.bool false)), none⟩]) (
 .ret)) (
 .skip))) (
 .seq (
 .reg [⟨some 12, .mv (.c (.int .i64 1)), none⟩]) (
 .seq (
 .reg [⟨some 84, .mv (.t 9), none⟩,
 ⟨some 85, .mv (.t 12), none⟩,
 ⟨some 86, .call 21 [] none [(.t 84), (.t 85)], none⟩,
 ⟨some 12, .mv (.t 86), none⟩]) (
 .seq (
 .seq (
 .reg [⟨some 87, .mv (.t 12), none⟩,
 ⟨some 88, .bin .lss (.t 87) (.c (.int .i64 0)), none⟩]) (
 .cond (.t 88) (
 .seq (
 .reg [⟨some 4, .mv (.c (.bool false)), none⟩]) (
 .ret)) (
 .skip))) (
 .seq (
 .seq (
 .reg [⟨some 89, .mv (.t 12), none⟩,
 ⟨some 90, .mv (.t 11), none⟩,
 ⟨some 91, .bin .neq (.t 89) (.t 90), none⟩]) (
 .cond (.t 91) (
 .seq (
 .reg [⟨some 4, .mv (.c (.bool false)), none⟩]) (
 .ret)) (
 .skip))) (
 .seq (
 .reg [⟨some 4, .mv (.c (.bool true)), none⟩]) (
 .ret))))))))))))))))))))))))))))))⟩
/-- loop.example/collabdoc/laws.szOpS -/
def v15 : VFunc := ⟨0, [.tmp 4],
 .seq (
 .reg [⟨some 4, .mv (.c (.int .i64 0)), none⟩]) (
 .seq (
 .reg [⟨some 6, .mv (.t 1), none⟩,
 ⟨some 7, .mv (.t 0), none⟩,
 ⟨some 8, .len false (.t 7), none⟩,
 ⟨some 9, .bin .sub (.t 6) (.t 8), none⟩,
 ⟨some 1, .mv (.t 9), none⟩]) (
 .seq (
 .seq (
 .reg [⟨some 10, .mv (.t 1), none⟩,
 ⟨some 11, .bin .lss (.t 10) (.c (.int .i64 0)), none⟩]) (
 .cond (.t 11) (
 .seq (
 .reg [⟨some 4, .mv (.c (.int .i64 (-1))), none⟩]) (
 .ret)) (
 .skip))) (
 .seq (
 .seq (
 .reg [⟨some 5, .mv (.c (.int .i64 0)), none⟩]) (
 .blk 0 (
 .loop [0, 1, 5] (
 .seq (
 .seq (
 .reg [⟨some 12, .mv (.t 5), none⟩,
 ⟨some 13, .mv (.t 0), none⟩,
 ⟨some 14, .len false (.t 13), none⟩,
 ⟨some 15, .bin .lss (.t 12) (.t 14), none⟩]) (
 .cond (.t 15) (
 .skip) (
 .exit 0))) (
 .seq (
 .blk 1 (
 .seq (
 .reg [⟨some 18, .mv (.t 0), none⟩,
 ⟨some 19, .mv (.t 5), none⟩,
 ⟨some 20, .ixs 70 12 (.t 18) (.t 19), none⟩,
 ⟨some 21, .ld (some 12) (.t 20), none⟩,
 ⟨some 22, .mv (.t 1), none⟩,
 ⟨some 23, .call 53 [] none [(.t 21), (.t 22)], none⟩,
 ⟨some 1, .mv (.t 23), none⟩]) (
 .seq (
 .reg [⟨some 24, .mv (.t 1), none⟩,
 ⟨some 25, .bin .lss (.t 24) (.c (.int .i64 0)), none⟩]) (
 .cond (.t 25) (
 .seq (
 .reg [⟨some 4, .mv (.c (.int .i64 (-1))), none⟩]) (
 .ret)) (
 .skip))))) (
 .reg [⟨some 16, .mv (.t 5), none⟩,
 ⟨some 17, .bin .add (.t 16) (.c (.int .i64 1)), none⟩,
 ⟨some 5, .mv (.t 17), none⟩])))))) (
 .seq (
 .reg [⟨some 26, .mv (.t 1), none⟩,
 ⟨some 4, .mv (.t 26), none⟩]) (
 .ret)))))⟩
/-- loop.example/collabdoc/spec.CommonLog -/
def v16 : VFunc := ⟨0, [.tmp 4],
 .seq (
 .reg [⟨some 4, .mv (.c (.sl [])), none⟩]) (
 .seq (
 .reg [⟨some 7, .bsl true 39 12 [], none⟩,
 ⟨some 5, .mv (.t 7), none⟩]) (
 .seq (
 .seq (
 .reg [⟨some 8, .mv (.t 0), none⟩,
 ⟨some 9, .call 54 [] none [(.t 8)], none⟩,
 ⟨some 10, .not (.t 9), none⟩,
 ⟨some 11, .mv (.t 10), none⟩,
 ⟨some 12, .mv (.t 1), some (11, false)⟩,
 ⟨some 13, .call 54 [] none [(.t 12)], some (11, false)⟩,
 ⟨some 14, .not (.t 13), some (11, false)⟩,
 ⟨some 15, .pick (.t 11) (.c (.bool true)) (.t 14), none⟩]) (
 .cond (.t 15) (
 .seq (
 .reg [⟨some 4, .mv (.c (.sl [])), none⟩]) (
 .ret)) (
 .skip))) (
 .seq (
 .seq (
 .reg [⟨some 6, .mv (.c (.int .i64 0)), none⟩]) (
 .blk 0 (
 .loop [0, 1, 5, 6] (
 .seq (
 .seq (
 .reg [⟨some 16, .mv (.t 6), none⟩,
 ⟨some 17, .mv (.t 0), none⟩,
 ⟨some 18, .len false (.t 17), none⟩,
 ⟨some 19, .bin .lss (.t 16) (.t 18), none⟩]) (
 .cond (.t 19) (
 .skip) (
 .exit 0))) (
 .seq (
 .blk 1 (
 .seq (
 .reg [⟨some 22, .mv (.t 1), none⟩,
 ⟨some 23, .mv (.t 0), none⟩,
 ⟨some 24, .mv (.t 6), none⟩,
 ⟨some 25, .mv (.t 6), none⟩,
 ⟨some 26, .bin .add (.t 25) (.c (.int .i64 1)), none⟩,
 ⟨some 27, .slc 39 12 (.t 23) (some (.t 24)) (some (.t 26)), none⟩,
 ⟨some 28, .call 55 [] none [(.t 22), (.t 27)], none⟩]) (
 .cond (.t 28) (
 .reg [⟨some 29, .mv (.t 5), none⟩,
 ⟨some 30, .mv (.t 0), none⟩,
 ⟨some 31, .mv (.t 6), none⟩,
 ⟨some 32, .ixs 39 12 (.t 30) (.t 31), none⟩,
 ⟨some 33, .ld (some 12) (.t 32), none⟩,
 ⟨some 34, .bsl false 39 12 [(.t 33)], none⟩,
 ⟨some 35, .app true 39 [.int .i64 0, .int .i64 0, .int .i64 0, .int .i64 0, .int .i64 0, .int .i64 0, .int .i64 0, .int .i64 0, .int .i64 0, .int .i64 0, .bool false, .str []] (.t 29) (.t 34), none⟩,
 ⟨some 5, .mv (.t 35), none⟩]) (
 .skip)))) (
 .reg [⟨some 20, .mv (.t 6), none⟩,
 ⟨some 21, .bin .add (.t 20) (.c (.int .i64 1)), none⟩,
 ⟨some 6, .mv (.t 21), none⟩])))))) (
 .seq (
 .reg [⟨some 36, .mv (.t 5), none⟩,
 ⟨some 4, .mv (.t 36), none⟩]) (
 .ret)))))⟩
/-- loop.example/collabdoc/laws.toOpS -/
def v17 : VFunc := ⟨0, [.tmp 2],
 .seq (
 .reg [⟨some 2, .mv (.c .nsl), none⟩]) (
 .seq (
 .reg [⟨some 5, .mv (.t 0), none⟩,
 ⟨some 6, .len false (.t 5), none⟩,
 ⟨some 7, .mks 39 [.int .i64 0, .int .i64 0, .int .i64 0, .int .i64 0, .int .i64 0, .int .i64 0, .int .i64 0, .int .i64 0, .int .i64 0, .int .i64 0, .bool false, .str []] (.t 6) (.t 6), none⟩,
 ⟨some 3, .mv (.t 7), none⟩]) (
 .seq (
 .seq (
 .reg [⟨some 4, .mv (.c (.int .i64 0)), none⟩]) (
 .blk 0 (
 .loop [0, 3, 4] (
 .seq (
 .seq (
 .reg [⟨some 8, .mv (.t 4), none⟩,
 ⟨some 9, .mv (.t 0), none⟩,
 ⟨some 10, .len false (.t 9), none⟩,
 ⟨some 11, .bin .lss (.t 8) (.t 10), none⟩]) (
 .cond (.t 11) (
 .skip) (
 .exit 0))) (
 .seq (
 .blk 1 (
 .reg [⟨some 14, .mv (.t 3), none⟩,
 ⟨some 15, .mv (.t 4), none⟩,
 ⟨some 16, .mv (.t 0), none⟩,
 ⟨some 17, .mv (.t 4), none⟩,
 ⟨some 18, .ixs 70 12 (.t 16) (.t 17), none⟩,
 ⟨some 19, .ld (some 12) (.t 18), none⟩,
 ⟨some 20, .call 56 [] none [(.t 19)], none⟩,
 ⟨some 21, .ixs 39 12 (.t 14) (.t 15), none⟩,
 ⟨none, .sto 12 (.t 21) (.t 20), none⟩])) (
 .reg [⟨some 12, .mv (.t 4), none⟩,
 ⟨some 13, .bin .add (.t 12) (.c (.int .i64 1)), none⟩,
 ⟨some 4, .mv (.t 13), none⟩])))))) (
 .seq (
 .reg [⟨some 22, .mv (.t 3), none⟩,
 ⟨some 2, .mv (.t 22), none⟩]) (
 .ret))))⟩
/-- loop.example/collabdoc/impl.CommonLog -/
def v18 : VFunc := ⟨0, [.tmp 4],
 .seq (
 .reg [⟨some 4, .mv (.c .nsl), none⟩]) (
 .seq (
 .reg [⟨some 5, .mv (.t 0), none⟩,
 ⟨some 6, .mv (.t 1), none⟩,
 ⟨some 7, .call 57 [] (some [39]) [(.t 5), (.t 6), (.c (.bool true))], none⟩,
 ⟨some 4, .mv (.t 7), none⟩]) (
 .ret))⟩
/-- loop.example/collabdoc/laws.eqOpS -/
def v19 : VFunc := ⟨0, [.tmp 4],
 .seq (
 .reg [⟨some 4, .mv (.c (.bool false)), none⟩]) (
 .seq (
 .seq (
 .reg [⟨some 6, .mv (.t 0), none⟩,
 ⟨some 7, .len false (.t 6), none⟩,
 ⟨some 8, .mv (.t 1), none⟩,
 ⟨some 9, .len false (.t 8), none⟩,
 ⟨some 10, .bin .neq (.t 7) (.t 9), none⟩]) (
 .cond (.t 10) (
 .seq (
 .reg [⟨some 4, .mv (.c (.bool false)), none⟩]) (
 .ret)) (
 .skip))) (
 .seq (
 .seq (
 .reg [⟨some 5, .mv (.c (.int .i64 0)), none⟩]) (
 .blk 0 (
 .loop [0, 1, 5] (
 .seq (
 .seq (
 .reg [⟨some 11, .mv (.t 5), none⟩,
 ⟨some 12, .mv (.t 0), none⟩,
 ⟨some 13, .len false (.t 12), none⟩,
 ⟨some 14, .bin .lss (.t 11) (.t 13), none⟩]) (
 .cond (.t 14) (
 .skip) (
 .exit 0))) (
 .seq (
 .blk 1 (
 .seq (
 .reg [⟨some 17, .mv (.t 0), none⟩,
 ⟨some 18, .mv (.t 5), none⟩,
 ⟨some 19, .ixs 39 12 (.t 17) (.t 18), none⟩,
 ⟨some 20, .ld (some 12) (.t 19), none⟩,
 ⟨some 21, .mv (.t 1), none⟩,
 ⟨some 22, .mv (.t 5), none⟩,
 ⟨some 23, .ixs 39 12 (.t 21) (.t 22), none⟩,
 ⟨some 24, .ld (some 12) (.t 23), none⟩,
 ⟨some 25, .call 58 [] none [(.t 20), (.t 24)], none⟩,
 ⟨some 26, .not (.t 25), none⟩]) (
 .cond (.t 26) (
 .seq (
 .reg [⟨some 4, .mv (.c (.bool false)), none⟩]) (
 .ret)) (
 .skip)))) (
 .reg [⟨some 15, .mv (.t 5), none⟩,
 ⟨some 16, .bin .add (.t 15) (.c (.int .i64 1)), none⟩,
 ⟨some 5, .mv (.t 16), none⟩])))))) (
 .seq (
 .reg [⟨some 4, .mv (.c (.bool true)), none⟩]) (
 .ret))))⟩
/-- loop.example/collabdoc/laws.markOpS -/
def v20 : VFunc := ⟨1, [.tmp 4],
 .seq (
 .reg [⟨some 4, .mv (.c (.int .i64 0)), none⟩]) (
 .seq (
 .seq (
 .reg [⟨some 5, .mv (.c (.int .i64 0)), none⟩]) (
 .blk 0 (
 .loop [0, 1, 5] (
 .seq (
 .seq (
 .reg [⟨some 6, .mv (.t 5), none⟩,
 ⟨some 7, .mv (.t 0), none⟩,
 ⟨some 8, .len false (.t 7), none⟩,
 ⟨some 9, .bin .lss (.t 6) (.t 8), none⟩]) (
 .cond (.t 9) (
 .skip) (
 .exit 0))) (
 .seq (
 .blk 1 (
 .seq (
 .reg [⟨some 12, .mv (.t 0), none⟩,
 ⟨some 13, .mv (.t 5), none⟩,
 ⟨some 14, .mv (.t 1), none⟩,
 ⟨some 15, .ixs 39 12 (.t 12) (.t 13), none⟩,
 ⟨some 16, .fld 0 (.t 15), none⟩,
 ⟨some 17, .fld 0 (.t 16), none⟩,
 ⟨none, .sto 1 (.t 17) (.t 14), none⟩]) (
 .seq (
 .reg [⟨some 18, .mv (.t 1), none⟩,
 ⟨some 19, .bin .add (.t 18) (.c (.int .i64 1)), none⟩,
 ⟨some 1, .mv (.t 19), none⟩]) (
 .seq (
 .reg [⟨some 20, .mv (.t 0), none⟩,
 ⟨some 21, .mv (.t 5), none⟩,
 ⟨some 22, .mv (.t 1), none⟩,
 ⟨some 23, .ixs 39 12 (.t 20) (.t 21), none⟩,
 ⟨some 24, .fld 0 (.t 23), none⟩,
 ⟨some 25, .fld 1 (.t 24), none⟩,
 ⟨none, .sto 1 (.t 25) (.t 22), none⟩]) (
 .seq (
 .reg [⟨some 26, .mv (.t 1), none⟩,
 ⟨some 27, .bin .add (.t 26) (.c (.int .i64 1)), none⟩,
 ⟨some 1, .mv (.t 27), none⟩]) (
 .seq (
 .reg [⟨some 28, .mv (.t 0), none⟩,
 ⟨some 29, .mv (.t 5), none⟩,
 ⟨some 30, .mv (.t 1), none⟩,
 ⟨some 31, .ixs 39 12 (.t 28) (.t 29), none⟩,
 ⟨some 32, .fld 2 (.t 31), none⟩,
 ⟨none, .sto 1 (.t 32) (.t 30), none⟩]) (
 .seq (
 .reg [⟨some 33, .mv (.t 1), none⟩,
 ⟨some 34, .bin .add (.t 33) (.c (.int .i64 1)), none⟩,
 ⟨some 1, .mv (.t 34), none⟩]) (
 .seq (
 .reg [⟨some 35, .mv (.t 0), none⟩,
 ⟨some 36, .mv (.t 5), none⟩,
 ⟨some 37, .mv (.t 1), none⟩,
 ⟨some 38, .ixs 39 12 (.t 35) (.t 36), none⟩,
 ⟨some 39, .fld 3 (.t 38), none⟩,
 ⟨some 40, .fld 0 (.t 39), none⟩,
 ⟨none, .sto 1 (.t 40) (.t 37), none⟩]) (
 .seq (
 .reg [⟨some 41, .mv (.t 1), none⟩,
 ⟨some 42, .bin .add (.t 41) (.c (.int .i64 1)), none⟩,
 ⟨some 1, .mv (.t 42), none⟩]) (
 .seq (
 .reg [⟨some 43, .mv (.t 0), none⟩,
 ⟨some 44, .mv (.t 5), none⟩,
 ⟨some 45, .mv (.t 1), none⟩,
 ⟨some 46, .ixs 39 12 (.t 43) (.t 44), none⟩,
 ⟨some 47, .fld 3 (.t 46), none⟩,
 ⟨some 48, .fld 1 (.t 47), none⟩,
 ⟨none, .sto 1 (.t 48) (.t 45), none⟩]) (
 .seq (
 .reg [⟨some 49, .mv (.t 1), none⟩,
 ⟨some 50, .bin .add (.t 49) (.c (.int .i64 1)), none⟩,
 ⟨some 1, .mv (.t 50), none⟩]) (
 .seq (
 .reg [⟨some 51, .mv (.t 0), none⟩,
 ⟨some 52, .mv (.t 5), none⟩,
 ⟨some 53, .mv (.t 1), none⟩,
 ⟨some 54, .ixs 39 12 (.t 51) (.t 52), none⟩,
 ⟨some 55, .fld 5 (.t 54), none⟩,
 ⟨some 56, .fld 0 (.t 55), none⟩,
 ⟨none, .sto 1 (.t 56) (.t 53), none⟩]) (
 .seq (
 .reg [⟨some 57, .mv (.t 1), none⟩,
 ⟨some 58, .bin .add (.t 57) (.c (.int .i64 1)), none⟩,
 ⟨some 1, .mv (.t 58), none⟩]) (
 .seq (
 .reg [⟨some 59, .mv (.t 0), none⟩,
 ⟨some 60, .mv (.t 5), none⟩,
 ⟨some 61, .mv (.t 1), none⟩,
 ⟨some 62, .ixs 39 12 (.t 59) (.t 60), none⟩,
 ⟨some 63, .fld 5 (.t 62), none⟩,
 ⟨some 64, .fld 1 (.t 63), none⟩,
 ⟨none, .sto 1 (.t 64) (.t 61), none⟩]) (
 .seq (
 .reg [⟨some 65, .mv (.t 1), none⟩,
 ⟨some 66, .bin .add (.t 65) (.c (.int .i64 1)), none⟩,
 ⟨some 1, .mv (.t 66), none⟩]) (
 .seq (
 .reg [⟨some 67, .mv (.t 0), none⟩,
 ⟨some 68, .mv (.t 5), none⟩,
 ⟨some 69, .mv (.t 1), none⟩,
 ⟨some 70, .ixs 39 12 (.t 67) (.t 68), none⟩,
 ⟨some 71, .fld 7 (.t 70), none⟩,
 ⟨some 72, .fld 0 (.t 71), none⟩,
 ⟨none, .sto 1 (.t 72) (.t 69), none⟩]) (
 .seq (
 .reg [⟨some 73, .mv (.t 1), none⟩,
 ⟨some 74, .bin .add (.t 73) (.c (.int .i64 1)), none⟩,
 ⟨some 1, .mv (.t 74), none⟩]) (
 .seq (
 .reg [⟨some 75, .mv (.t 0), none⟩,
 ⟨some 76, .mv (.t 5), none⟩,
 ⟨some 77, .mv (.t 1), none⟩,
 ⟨some 78, .ixs 39 12 (.t 75) (.t 76), none⟩,
 ⟨some 79, .fld 7 (.t 78), none⟩,
 ⟨some 80, .fld 1 (.t 79), none⟩,
 ⟨none, .sto 1 (.t 80) (.t 77), none⟩]) (
 .seq (
 .reg [⟨some 81, .mv (.t 1), none⟩,
 ⟨some 82, .bin .add (.t 81) (.c (.int .i64 1)), none⟩,
 ⟨some 1, .mv (.t 82), none⟩]) (
 .seq (
 .reg [⟨some 83, .mv (.t 0), none⟩,
 ⟨some 84, .mv (.t 5), none⟩,
 ⟨some 85, .mv (.t 1), none⟩,
 ⟨some 86, .ixs 39 12 (.t 83) (.t 84), none⟩,
 ⟨some 87, .fld 9 (.t 86), none⟩,
 ⟨none, .sto 1 (.t 87) (.t 85), none⟩]) (
 .seq (
 .reg [⟨some 88, .mv (.t 1), none⟩,
 ⟨some 89, .bin .add (.t 88) (.c (.int .i64 1)), none⟩,
 ⟨some 1, .mv (.t 89), none⟩]) (
 .seq (
 .reg [⟨some 90, .mv (.t 0), none⟩,
 ⟨some 91, .mv (.t 5), none⟩,
 ⟨some 92, .mv (.t 1), none⟩,
 ⟨some 93, .bin .rem (.t 92) (.c (.int .i64 3)), none⟩,
 ⟨some 94, .bin .eql (.t 93) (.c (.int .i64 0)), none⟩,
 ⟨some 95, .ixs 39 12 (.t 90) (.t 91), none⟩,
 ⟨some 96, .fld 10 (.t 95), none⟩,
 ⟨none, .sto 1 (.t 96) (.t 94), none⟩]) (
 .seq (
 .reg [⟨some 97, .mv (.t 1), none⟩,
 ⟨some 98, .bin .add (.t 97) (.c (.int .i64 1)), none⟩,
 ⟨some 1, .mv (.t 98), none⟩]) (
 .seq (
 .reg [⟨some 99, .mv (.t 0), none⟩,
 ⟨some 100, .mv (.t 5), none⟩,
 ⟨some 101, .mv (.t 1), none⟩,
 ⟨some 102, .call 59 [] none [(.t 101)], none⟩,
 ⟨some 103, .ixs 39 12 (.t 99) (.t 100), none⟩,
 ⟨some 104, .fld 11 (.t 103), none⟩,
 ⟨none, .sto 1 (.t 104) (.t 102), none⟩]) (
 .reg [⟨some 105, .mv (.t 1), none⟩,
 ⟨some 106, .bin .add (.t 105) (.c (.int .i64 1)), none⟩,
 ⟨some 1, .mv (.t 106), none⟩]))))))))))))))))))))))))) (
 .reg [⟨some 10, .mv (.t 5), none⟩,
 ⟨some 11, .bin .add (.t 10) (.c (.int .i64 1)), none⟩,
 ⟨some 5, .mv (.t 11), none⟩])))))) (
 .seq (
 .reg [⟨some 107, .mv (.t 1), none⟩,
 ⟨some 4, .mv (.t 107), none⟩]) (
 .ret)))⟩
/-- loop.example/collabdoc/laws.heldOpS -/
def v21 : VFunc := ⟨0, [.tmp 4],
 .seq (
 .reg [⟨some 4, .mv (.c (.int .i64 0)), none⟩]) (
 .seq (
 .seq (
 .reg [⟨some 5, .mv (.c (.int .i64 0)), none⟩]) (
 .blk 0 (
 .loop [0, 1, 5] (
 .seq (
 .seq (
 .reg [⟨some 6, .mv (.t 5), none⟩,
 ⟨some 7, .mv (.t 0), none⟩,
 ⟨some 8, .len false (.t 7), none⟩,
 ⟨some 9, .bin .lss (.t 6) (.t 8), none⟩]) (
 .cond (.t 9) (
 .skip) (
 .exit 0))) (
 .seq (
 .blk 1 (
 .seq (
 .seq (
 .reg [⟨some 12, .mv (.t 0), none⟩,
 ⟨some 13, .mv (.t 5), none⟩,
 ⟨some 14, .ixs 39 12 (.t 12) (.t 13), none⟩,
 ⟨some 15, .fld 0 (.t 14), none⟩,
 ⟨some 16, .fld 0 (.t 15), none⟩,
 ⟨some 17, .ld none (.t 16), none⟩,
 ⟨some 18, .mv (.t 1), none⟩,
 ⟨some 19, .bin .neq (.t 17) (.t 18), none⟩]) (
 .cond (.t 19) (
 .seq (
 .reg [⟨some 4, .mv (.c (.int .i64 (-1))), none⟩]) (
 .ret)) (
 .skip))) (
 .seq (
 .reg [⟨some 20, .mv (.t 1), none⟩,
 ⟨some 21, .bin .add (.t 20) (.c (.int .i64 1)), none⟩,
 ⟨some 1, .mv (.t 21), none⟩]) (
 .seq (
 .seq (
 .reg [⟨some 22, .mv (.t 0), none⟩,
 ⟨some 23, .mv (.t 5), none⟩,
 ⟨some 24, .ixs 39 12 (.t 22) (.t 23), none⟩,
 ⟨some 25, .fld 0 (.t 24), none⟩,
 ⟨some 26, .fld 1 (.t 25), none⟩,
 ⟨some 27, .ld none (.t 26), none⟩,
 ⟨some 28, .mv (.t 1), none⟩,
 ⟨some 29, .bin .neq (.t 27) (.t 28), none⟩]) (
 .cond (.t 29) (
 .seq (
 .reg [⟨some 4, .mv (.c (.int .i64 (-1))), none⟩]) (
 .ret)) (
 .skip))) (
 .seq (
 .reg [⟨some 30, .mv (.t 1), none⟩,
 ⟨some 31, .bin .add (.t 30) (.c (.int .i64 1)), none⟩,
 ⟨some 1, .mv (.t 31), none⟩]) (
 .seq (
 .seq (
 .reg [⟨some 32, .mv (.t 0), none⟩,
 ⟨some 33, .mv (.t 5), none⟩,
 ⟨some 34, .ixs 39 12 (.t 32) (.t 33), none⟩,
 ⟨some 35, .fld 2 (.t 34), none⟩,
 ⟨some 36, .ld none (.t 35), none⟩,
 ⟨some 37, .mv (.t 1), none⟩,
 ⟨some 38, .bin .neq (.t 36) (.t 37), none⟩]) (
 .cond (.t 38) (
 .seq (
 .reg [⟨some 4, .mv (.c (.int .i64 (-1))), none⟩]) (
 .ret)) (
 .skip))) (
 .seq (
 .reg [⟨some 39, .mv (.t 1), none⟩,
 ⟨some 40, .bin .add (.t 39) (.c (.int .i64 1)), none⟩,
 ⟨some 1, .mv (.t 40), none⟩]) (
 .seq (
 .seq (
 .reg [⟨some 41, .mv (.t 0), none⟩,
 ⟨some 42, .mv (.t 5), none⟩,
 ⟨some 43, .ixs 39 12 (.t 41) (.t 42), none⟩,
 ⟨some 44, .fld 3 (.t 43), none⟩,
 ⟨some 45, .fld 0 (.t 44), none⟩,
 ⟨some 46, .ld none (.t 45), none⟩,
 ⟨some 47, .mv (.t 1), none⟩,
 ⟨some 48, .bin .neq (.t 46) (.t 47), none⟩]) (
 .cond (.t 48) (
 .seq (
 .reg [⟨some 4, .mv (.c (.int .i64 (-1))), none⟩]) (
 .ret)) (
 .skip))) (
 .seq (
 .reg [⟨some 49, .mv (.t 1), none⟩,
 ⟨some 50, .bin .add (.t 49) (.c (.int .i64 1)), none⟩,
 ⟨some 1, .mv (.t 50), none⟩]) (
 .seq (
 .seq (
 .reg [⟨some 51, .mv (.t 0), none⟩,
 ⟨some 52, .mv (.t 5), none⟩,
 ⟨some 53, .ixs 39 12 (.t 51) (.t 52), none⟩,
 ⟨some 54, .fld 3 (.t 53), none⟩,
 ⟨some 55, .fld 1 (.t 54), none⟩,
 ⟨some 56, .ld none (.t 55), none⟩,
 ⟨some 57, .mv (.t 1), none⟩,
 ⟨some 58, .bin .neq (.t 56) (.t 57), none⟩]) (
 .cond (.t 58) (
 .seq (
 .reg [⟨some 4, .mv (.c (.int .i64 (-1))), none⟩]) (
 .ret)) (
 .skip))) (
 .seq (
 .reg [⟨some 59, .mv (.t 1), none⟩,
 ⟨some 60, .bin .add (.t 59) (.c (.int .i64 1)), none⟩,
 ⟨some 1, .mv (.t 60), none⟩]) (
 .seq (
 .seq (
 .reg [⟨some 61, .mv (.t 0), none⟩,
 ⟨some 62, .mv (.t 5), none⟩,
 ⟨some 63, .ixs 39 12 (.t 61) (.t 62), none⟩,
 ⟨some 64, .fld 5 (.t 63), none⟩,
 ⟨some 65, .fld 0 (.t 64), none⟩,
 ⟨some 66, .ld none (.t 65), none⟩,
 ⟨some 67, .mv (.t 1), none⟩,
 ⟨some 68, .bin .neq (.t 66) (.t 67), none⟩]) (
 .cond (.t 68) (
 .seq (
 .reg [⟨some 4, .mv (.c (.int .i64 (-1))), none⟩]) (
 .ret)) (
 .skip))) (
 .seq (
 .reg [⟨some 69, .mv (.t 1), none⟩,
 ⟨some 70, .bin .add (.t 69) (.c (.int .i64 1)), none⟩,
 ⟨some 1, .mv (.t 70), none⟩]) (
 .seq (
 .seq (
 .reg [⟨some 71, .mv (.t 0), none⟩,
 ⟨some 72, .mv (.t 5), none⟩,
 ⟨some 73, .ixs 39 12 (.t 71) (.t 72), none⟩,
 ⟨some 74, .fld 5 (.t 73), none⟩,
 ⟨some 75, .fld 1 (.t 74), none⟩,
 ⟨some 76, .ld none (.t 75), none⟩,
 ⟨some 77, .mv (.t 1), none⟩,
 ⟨some 78, .bin .neq (.t 76) (.t 77), none⟩]) (
 .cond (.t 78) (
 .seq (
 .reg [⟨some 4, .mv (.c (.int .i64 (-1))), none⟩]) (
 .ret)) (
 .skip))) (
 .seq (
 .reg [⟨some 79, .mv (.t 1), none⟩,
 ⟨some 80, .bin .add (.t 79) (.c (.int .i64 1)), none⟩,
 ⟨some 1, .mv (.t 80), none⟩]) (
 .seq (
 .seq (
 .reg [⟨some 81, .mv (.t 0), none⟩,
 ⟨some 82, .mv (.t 5), none⟩,
 ⟨some 83, .ixs 39 12 (.t 81) (.t 82), none⟩,
 ⟨some 84, .fld 7 (.t 83), none⟩,
 ⟨some 85, .fld 0 (.t 84), none⟩,
 ⟨some 86, .ld none (.t 85), none⟩,
 ⟨some 87, .mv (.t 1), none⟩,
 ⟨some 88, .bin .neq (.t 86) (.t 87), none⟩]) (
 .cond (.t 88) (
 .seq (
 .reg [⟨some 4, .mv (.c (.int .i64 (-1))), none⟩]) (
 .ret)) (
 .skip))) (
 .seq (
 .reg [⟨some 89, .mv (.t 1), none⟩,
 ⟨some 90, .bin .add (.t 89) (.c (.int .i64 1)), none⟩,
 ⟨some 1, .mv (.t 90), none⟩]) (
 .seq (
 .seq (
 .reg [⟨some 91, .mv (.t 0), none⟩,
 ⟨some 92, .mv (.t 5), none⟩,
 ⟨some 93, .ixs 39 12 (.t 91) (.t 92), none⟩,
 ⟨some 94, .fld 7 (.t 93), none⟩,
 ⟨some 95, .fld 1 (.t 94), none⟩,
 ⟨some 96, .ld none (.t 95), none⟩,
 ⟨some 97, .mv (.t 1), none⟩,
 ⟨some 98, .bin .neq (.t 96) (.t 97), none⟩]) (
 .cond (.t 98) (
 .seq (
 .reg [⟨some 4, .mv (.c (.int .i64 (-1))), none⟩]) (
 .ret)) (
 .skip))) (
 .seq (
 .reg [⟨some 99, .mv (.t 1), none⟩,
 ⟨some 100, .bin .add (.t 99) (.c (.int .i64 1)), none⟩,
 ⟨some 1, .mv (.t 100), none⟩]) (
 .seq (
 .seq (
 .reg [⟨some 101, .mv (.t 0), none⟩,
 ⟨some 102, .mv (.t 5), none⟩,
 ⟨some 103, .ixs 39 12 (.t 101) (.t 102), none⟩,
 ⟨some 104, .fld 9 (.t 103), none⟩,
 ⟨some 105, .ld none (.t 104), none⟩,
 ⟨some 106, .mv (.t 1), none⟩,
 ⟨some 107, .bin .neq (.t 105) (.t 106), none⟩]) (
 .cond (.t 107) (
 .seq (
 .reg [⟨some 4, .mv (.c (.int .i64 (-1))), none⟩]) (
 .ret)) (
 .skip))) (
 .seq (
 .reg [⟨some 108, .mv (.t 1), none⟩,
 ⟨some 109, .bin .add (.t 108) (.c (.int .i64 1)), none⟩,
 ⟨some 1, .mv (.t 109), none⟩]) (
 .seq (
 .seq (
 .reg [⟨some 110, .mv (.t 0), none⟩,
 ⟨some 111, .mv (.t 5), none⟩,
 ⟨some 112, .ixs 39 12 (.t 110) (.t 111), none⟩,
 ⟨some 113, .fld 10 (.t 112), none⟩,
 ⟨some 114, .ld none (.t 113), none⟩,
 ⟨some 115, .mv (.t 1), none⟩,
 ⟨some 116, .bin .rem (.t 115) (.c (.int .i64 3)), none⟩,
 ⟨some 117, .bin .eql (.t 116) (.c (.int .i64 0)), none⟩,
 ⟨some 118, .eqb true (.t 114) (.t 117), none⟩]) (
 .cond (.t 118) (
 .seq (
 .reg [⟨some 4, .mv (.c (.int .i64 (-1))), none⟩]) (
 .ret)) (
 .skip))) (
 .seq (
 .reg [⟨some 119, .mv (.t 1), none⟩,
 ⟨some 120, .bin .add (.t 119) (.c (.int .i64 1)), none⟩,
 ⟨some 1, .mv (.t 120), none⟩]) (
 .seq (
 .seq (
 .reg [⟨some 121, .mv (.t 0), none⟩,
 ⟨some 122, .mv (.t 5), none⟩,
 ⟨some 123, .ixs 39 12 (.t 121) (.t 122), none⟩,
 ⟨some 124, .fld 11 (.t 123), none⟩,
 ⟨some 125, .ld none (.t 124), none⟩,
 ⟨some 126, .mv (.t 1), none⟩,
 ⟨some 127, .call 59 [] none [(.t 126)], none⟩,
 ⟨some 128, .bin .neq (.t 125) (.t 127), none⟩]) (
 .cond (.t 128) (
 .seq (
 .reg [⟨some 4, .mv (.c (.int .i64 (-1))), none⟩]) (
 .ret)) (
 .skip))) (
 .reg [⟨some 129, .mv (.t 1), none⟩,
 ⟨some 130, .bin .add (.t 129) (.c (.int .i64 1)), none⟩,
 ⟨some 1, .mv (.t 130), none⟩]))))))))))))))))))))))))) (
 .reg [⟨some 10, .mv (.t 5), none⟩,
 ⟨some 11, .bin .add (.t 10) (.c (.int .i64 1)), none⟩,
 ⟨some 5, .mv (.t 11), none⟩])))))) (
 .seq (
 .reg [⟨some 131, .mv (.t 1), none⟩,
 ⟨some 4, .mv (.t 131), none⟩]) (
 .ret)))⟩
/-- loop.example/collabdoc/spec.LogDifference -/
def v22 : VFunc := ⟨0, [.tmp 4],
 .seq (
 .reg [⟨some 4, .mv (.c (.sl [])), none⟩]) (
 .seq (
 .seq (
 .reg [⟨some 5, .mv (.t 0), none⟩,
 ⟨some 6, .call 54 [] none [(.t 5)], none⟩,
 ⟨some 7, .not (.t 6), none⟩,
 ⟨some 8, .mv (.t 7), none⟩,
 ⟨some 9, .mv (.t 1), some (8, false)⟩,
 ⟨some 10, .call 54 [] none [(.t 9)], some (8, false)⟩,
 ⟨some 11, .not (.t 10), some (8, false)⟩,
 ⟨some 12, .pick (.t 8) (.c (.bool true)) (.t 11), none⟩]) (
 .cond (.t 12) (
 .seq (
 .reg [⟨some 4, .mv (.c (.sl [])), none⟩]) (
 .ret)) (
 .skip))) (
 .seq (
 .reg [⟨some 13, .mv (.t 0), none⟩,
 ⟨some 14, .mv (.t 1), none⟩,
 ⟨some 15, .call 60 [] none [(.t 13), (.t 14)], none⟩,
 ⟨some 4, .mv (.t 15), none⟩]) (
 .ret)))⟩
/-- loop.example/collabdoc/impl.LogDifference -/
def v23 : VFunc := ⟨0, [.tmp 4],
 .seq (
 .reg [⟨some 4, .mv (.c .nsl), none⟩]) (
 .seq (
 .reg [⟨some 5, .mv (.t 0), none⟩,
 ⟨some 6, .mv (.t 1), none⟩,
 ⟨some 7, .call 57 [] (some [39]) [(.t 5), (.t 6), (.c (.bool false))], none⟩,
 ⟨some 4, .mv (.t 7), none⟩]) (
 .ret))⟩
/-- loop.example/collabdoc/impl.ValidLog -/
def v31 : VFunc := ⟨0, [.tmp 2],
 .seq (
 .reg [⟨some 2, .mv (.c (.bool false)), none⟩]) (
 .seq (
 .seq (
 .reg [⟨some 5, .mv (.t 0), none⟩,
 ⟨some 6, .len false (.t 5), none⟩,
 ⟨some 7, .mv (.c (.int .i64 0)), none⟩]) (
 .blk 0 (
 .loop [0, 5, 6, 7] (
 .seq (
 .reg [⟨some 8, .bin .lss (.t 7) (.t 6), none⟩]) (
 .seq (
 .cond (.t 8) (
 .skip) (
 .exit 0)) (
 .seq (
 .blk 1 (
 .seq (
 .reg [⟨some 9, .mv (.t 7), none⟩,
 ⟨some 10, .ixs 39 12 (.t 5) (.t 7), none⟩,
 ⟨some 11, .ld (some 12) (.t 10), none⟩,
 ⟨some 4, .alloc [.int .i64 0, .int .i64 0, .int .i64 0, .int .i64 0, .int .i64 0, .int .i64 0, .int .i64 0, .int .i64 0, .int .i64 0, .int .i64 0, .bool false, .str []], none⟩,
 ⟨some 3, .mv (.t 9), none⟩,
 ⟨none, .sto 12 (.t 4) (.t 11), none⟩]) (
 .seq (
 .reg [⟨some 12, .ld (some 12) (.t 4), none⟩,
 ⟨some 13, .call 68 [] none [(.t 12)], none⟩,
 ⟨some 14, .not (.t 13), none⟩,
 ⟨some 15, .mv (.t 14), none⟩,
 ⟨some 16, .mv (.t 3), some (15, false)⟩,
 ⟨some 17, .bin .gtr (.t 16) (.c (.int .i64 0)), some (15, false)⟩,
 ⟨some 18, .mv (.t 17), some (15, false)⟩,
 ⟨some 19, .mv (.t 0), some (18, true)⟩,
 ⟨some 20, .mv (.t 3), some (18, true)⟩,
 ⟨some 21, .bin .sub (.t 20) (.c (.int .i64 1)), some (18, true)⟩,
 ⟨some 22, .ixs 39 12 (.t 19) (.t 21), some (18, true)⟩,
 ⟨some 23, .fld 0 (.t 22), some (18, true)⟩,
 ⟨some 24, .ld (some 2) (.t 23), some (18, true)⟩,
 ⟨some 25, .fld 0 (.t 4), some (18, true)⟩,
 ⟨some 26, .ld (some 2) (.t 25), some (18, true)⟩,
 ⟨some 27, .call 37 [] none [(.t 24), (.t 26)], some (18, true)⟩,
 ⟨some 28, .not (.t 27), some (18, true)⟩,
 ⟨some 29, .pick (.t 18) (.t 28) (.c (.bool false)), some (15, false)⟩,
 ⟨some 30, .pick (.t 15) (.c (.bool true)) (.t 29), none⟩]) (
 .cond (.t 30) (
 .seq (
 .reg [⟨some 2, .mv (.c (.bool false)), none⟩]) (
 .ret)) (
 .skip))))) (
 .reg [⟨some 31, .bin .add (.t 7) (.c (.int .i64 1)), none⟩,
 ⟨some 7, .mv (.t 31), none⟩]))))))) (
 .seq (
 .reg [⟨some 32, .mv (.t 0), none⟩,
 ⟨some 33, .len false (.t 32), none⟩,
 ⟨some 34, .bin .leq (.t 33) (.c (.int .i64 40)), none⟩,
 ⟨some 2, .mv (.t 34), none⟩]) (
 .ret)))⟩
/-- loop.example/collabdoc/spec.Conflicts -/
def v32 : VFunc := ⟨0, [.tmp 4],
 .seq (
 .reg [⟨some 4, .mv (.c (.sl [])), none⟩]) (
 .seq (
 .seq (
 .reg [⟨some 5, .mv (.t 0), none⟩,
 ⟨some 6, .call 54 [] none [(.t 5)], none⟩,
 ⟨some 7, .not (.t 6), none⟩,
 ⟨some 8, .mv (.t 7), none⟩,
 ⟨some 9, .mv (.t 1), some (8, false)⟩,
 ⟨some 10, .call 54 [] none [(.t 9)], some (8, false)⟩,
 ⟨some 11, .not (.t 10), some (8, false)⟩,
 ⟨some 12, .pick (.t 8) (.c (.bool true)) (.t 11), none⟩]) (
 .cond (.t 12) (
 .seq (
 .reg [⟨some 4, .mv (.c (.sl [])), none⟩]) (
 .ret)) (
 .skip))) (
 .seq (
 .reg [⟨some 13, .mv (.t 0), none⟩,
 ⟨some 14, .mv (.t 1), none⟩,
 ⟨some 15, .call 60 [] none [(.t 13), (.t 14)], none⟩,
 ⟨some 16, .mv (.t 1), none⟩,
 ⟨some 17, .mv (.t 0), none⟩,
 ⟨some 18, .call 60 [] none [(.t 16), (.t 17)], none⟩,
 ⟨some 19, .call 69 [] none [(.t 15), (.t 18)], none⟩,
 ⟨some 4, .mv (.t 19), none⟩]) (
 .ret)))⟩
/-- loop.example/collabdoc/impl.Conflicts -/
def v33 : VFunc := ⟨0, [.tmp 4],
 .seq (
 .reg [⟨some 4, .mv (.c .nsl), none⟩]) (
 .seq (
 .reg [⟨some 10, .bsl true 84 4 [], none⟩,
 ⟨some 5, .mv (.t 10), none⟩]) (
 .seq (
 .seq (
 .reg [⟨some 11, .mv (.t 0), none⟩,
 ⟨some 12, .mv (.t 1), none⟩,
 ⟨some 13, .call 23 [] none [(.t 11), (.t 12)], none⟩,
 ⟨some 14, .len false (.t 13), none⟩,
 ⟨some 15, .mv (.c (.int .i64 0)), none⟩]) (
 .blk 0 (
 .loop [0, 1, 5, 13, 14, 15] (
 .seq (
 .reg [⟨some 16, .bin .lss (.t 15) (.t 14), none⟩]) (
 .seq (
 .cond (.t 16) (
 .skip) (
 .exit 0)) (
 .seq (
 .blk 1 (
 .seq (
 .reg [⟨some 17, .ixs 39 12 (.t 13) (.t 15), none⟩,
 ⟨some 18, .ld (some 12) (.t 17), none⟩,
 ⟨some 7, .alloc [.int .i64 0, .int .i64 0, .int .i64 0, .int .i64 0, .int .i64 0, .int .i64 0, .int .i64 0, .int .i64 0, .int .i64 0, .int .i64 0, .bool false, .str []], none⟩,
 ⟨none, .sto 12 (.t 7) (.t 18), none⟩]) (
 .seq (
 .reg [⟨some 19, .mv (.t 1), none⟩,
 ⟨some 20, .mv (.t 0), none⟩,
 ⟨some 21, .call 23 [] none [(.t 19), (.t 20)], none⟩,
 ⟨some 22, .len false (.t 21), none⟩,
 ⟨some 23, .mv (.c (.int .i64 0)), none⟩]) (
 .blk 2 (
 .loop [0, 1, 5, 7, 13, 14, 15, 21, 22, 23] (
 .seq (
 .reg [⟨some 24, .bin .lss (.t 23) (.t 22), none⟩]) (
 .seq (
 .cond (.t 24) (
 .skip) (
 .exit 2)) (
 .seq (
 .blk 3 (
 .seq (
 .reg [⟨some 25, .ixs 39 12 (.t 21) (.t 23), none⟩,
 ⟨some 26, .ld (some 12) (.t 25), none⟩,
 ⟨some 9, .alloc [.int .i64 0, .int .i64 0, .int .i64 0, .int .i64 0, .int .i64 0, .int .i64 0, .int .i64 0, .int .i64 0, .int .i64 0, .int .i64 0, .bool false, .str []], none⟩,
 ⟨none, .sto 12 (.t 9) (.t 26), none⟩]) (
 .seq (
 .reg [⟨some 27, .ld (some 12) (.t 7), none⟩,
 ⟨some 28, .ld (some 12) (.t 9), none⟩,
 ⟨some 29, .call 70 [] none [(.t 27), (.t 28)], none⟩]) (
 .cond (.t 29) (
 .reg [⟨some 30, .mv (.t 5), none⟩,
 ⟨some 31, .fld 0 (.t 7), none⟩,
 ⟨some 32, .ld (some 2) (.t 31), none⟩,
 ⟨some 33, .fld 0 (.t 9), none⟩,
 ⟨some 34, .ld (some 2) (.t 33), none⟩,
 ⟨some 35, .build [.int .i64 0, .int .i64 0, .int .i64 0, .int .i64 0] [(0, 2, (.t 32)), (2, 2, (.t 34))], none⟩,
 ⟨some 36, .bsl false 84 4 [(.t 35)], none⟩,
 ⟨some 37, .app true 84 [.int .i64 0, .int .i64 0, .int .i64 0, .int .i64 0] (.t 30) (.t 36), none⟩,
 ⟨some 5, .mv (.t 37), none⟩]) (
 .skip))))) (
 .reg [⟨some 38, .bin .add (.t 23) (.c (.int .i64 1)), none⟩,
 ⟨some 23, .mv (.t 38), none⟩]))))))))) (
 .reg [⟨some 39, .bin .add (.t 15) (.c (.int .i64 1)), none⟩,
 ⟨some 15, .mv (.t 39), none⟩]))))))) (
 .seq (
 .reg [⟨some 40, .mv (.t 5), none⟩,
 ⟨some 4, .mv (.t 40), none⟩]) (
 .ret))))⟩
/-- loop.example/collabdoc/laws.eqConflictS -/
def v34 : VFunc := ⟨0, [.tmp 4],
 .seq (
 .reg [⟨some 4, .mv (.c (.bool false)), none⟩]) (
 .seq (
 .seq (
 .reg [⟨some 6, .mv (.t 0), none⟩,
 ⟨some 7, .len false (.t 6), none⟩,
 ⟨some 8, .mv (.t 1), none⟩,
 ⟨some 9, .len false (.t 8), none⟩,
 ⟨some 10, .bin .neq (.t 7) (.t 9), none⟩]) (
 .cond (.t 10) (
 .seq (
 .reg [⟨some 4, .mv (.c (.bool false)), none⟩]) (
 .ret)) (
 .skip))) (
 .seq (
 .seq (
 .reg [⟨some 5, .mv (.c (.int .i64 0)), none⟩]) (
 .blk 0 (
 .loop [0, 1, 5] (
 .seq (
 .seq (
 .reg [⟨some 11, .mv (.t 5), none⟩,
 ⟨some 12, .mv (.t 0), none⟩,
 ⟨some 13, .len false (.t 12), none⟩,
 ⟨some 14, .bin .lss (.t 11) (.t 13), none⟩]) (
 .cond (.t 14) (
 .skip) (
 .exit 0))) (
 .seq (
 .blk 1 (
 .seq (
 .reg [⟨some 17, .mv (.t 0), none⟩,
 ⟨some 18, .mv (.t 5), none⟩,
 ⟨some 19, .ixs 84 4 (.t 17) (.t 18), none⟩,
 ⟨some 20, .ld (some 4) (.t 19), none⟩,
 ⟨some 21, .mv (.t 1), none⟩,
 ⟨some 22, .mv (.t 5), none⟩,
 ⟨some 23, .ixs 84 4 (.t 21) (.t 22), none⟩,
 ⟨some 24, .ld (some 4) (.t 23), none⟩,
 ⟨some 25, .call 71 [] none [(.t 20), (.t 24)], none⟩,
 ⟨some 26, .not (.t 25), none⟩]) (
 .cond (.t 26) (
 .seq (
 .reg [⟨some 4, .mv (.c (.bool false)), none⟩]) (
 .ret)) (
 .skip)))) (
 .reg [⟨some 15, .mv (.t 5), none⟩,
 ⟨some 16, .bin .add (.t 15) (.c (.int .i64 1)), none⟩,
 ⟨some 5, .mv (.t 16), none⟩])))))) (
 .seq (
 .reg [⟨some 4, .mv (.c (.bool true)), none⟩]) (
 .ret))))⟩
/-- loop.example/collabdoc/laws.markConflictS -/
def v35 : VFunc := ⟨1, [.tmp 4],
 .seq (
 .reg [⟨some 4, .mv (.c (.int .i64 0)), none⟩]) (
 .seq (
 .seq (
 .reg [⟨some 5, .mv (.c (.int .i64 0)), none⟩]) (
 .blk 0 (
 .loop [0, 1, 5] (
 .seq (
 .seq (
 .reg [⟨some 6, .mv (.t 5), none⟩,
 ⟨some 7, .mv (.t 0), none⟩,
 ⟨some 8, .len false (.t 7), none⟩,
 ⟨some 9, .bin .lss (.t 6) (.t 8), none⟩]) (
 .cond (.t 9) (
 .skip) (
 .exit 0))) (
 .seq (
 .blk 1 (
 .seq (
 .reg [⟨some 12, .mv (.t 0), none⟩,
 ⟨some 13, .mv (.t 5), none⟩,
 ⟨some 14, .mv (.t 1), none⟩,
 ⟨some 15, .ixs 84 4 (.t 12) (.t 13), none⟩,
 ⟨some 16, .fld 0 (.t 15), none⟩,
 ⟨some 17, .fld 0 (.t 16), none⟩,
 ⟨none, .sto 1 (.t 17) (.t 14), none⟩]) (
 .seq (
 .reg [⟨some 18, .mv (.t 1), none⟩,
 ⟨some 19, .bin .add (.t 18) (.c (.int .i64 1)), none⟩,
 ⟨some 1, .mv (.t 19), none⟩]) (
 .seq (
 .reg [⟨some 20, .mv (.t 0), none⟩,
 ⟨some 21, .mv (.t 5), none⟩,
 ⟨some 22, .mv (.t 1), none⟩,
 ⟨some 23, .ixs 84 4 (.t 20) (.t 21), none⟩,
 ⟨some 24, .fld 0 (.t 23), none⟩,
 ⟨some 25, .fld 1 (.t 24), none⟩,
 ⟨none, .sto 1 (.t 25) (.t 22), none⟩]) (
 .seq (
 .reg [⟨some 26, .mv (.t 1), none⟩,
 ⟨some 27, .bin .add (.t 26) (.c (.int .i64 1)), none⟩,
 ⟨some 1, .mv (.t 27), none⟩]) (
 .seq (
 .reg [⟨some 28, .mv (.t 0), none⟩,
 ⟨some 29, .mv (.t 5), none⟩,
 ⟨some 30, .mv (.t 1), none⟩,
 ⟨some 31, .ixs 84 4 (.t 28) (.t 29), none⟩,
 ⟨some 32, .fld 2 (.t 31), none⟩,
 ⟨some 33, .fld 0 (.t 32), none⟩,
 ⟨none, .sto 1 (.t 33) (.t 30), none⟩]) (
 .seq (
 .reg [⟨some 34, .mv (.t 1), none⟩,
 ⟨some 35, .bin .add (.t 34) (.c (.int .i64 1)), none⟩,
 ⟨some 1, .mv (.t 35), none⟩]) (
 .seq (
 .reg [⟨some 36, .mv (.t 0), none⟩,
 ⟨some 37, .mv (.t 5), none⟩,
 ⟨some 38, .mv (.t 1), none⟩,
 ⟨some 39, .ixs 84 4 (.t 36) (.t 37), none⟩,
 ⟨some 40, .fld 2 (.t 39), none⟩,
 ⟨some 41, .fld 1 (.t 40), none⟩,
 ⟨none, .sto 1 (.t 41) (.t 38), none⟩]) (
 .reg [⟨some 42, .mv (.t 1), none⟩,
 ⟨some 43, .bin .add (.t 42) (.c (.int .i64 1)), none⟩,
 ⟨some 1, .mv (.t 43), none⟩]))))))))) (
 .reg [⟨some 10, .mv (.t 5), none⟩,
 ⟨some 11, .bin .add (.t 10) (.c (.int .i64 1)), none⟩,
 ⟨some 5, .mv (.t 11), none⟩])))))) (
 .seq (
 .reg [⟨some 44, .mv (.t 1), none⟩,
 ⟨some 4, .mv (.t 44), none⟩]) (
 .ret)))⟩
/-- loop.example/collabdoc/laws.heldConflictS -/
def v36 : VFunc := ⟨0, [.tmp 4],
 .seq (
 .reg [⟨some 4, .mv (.c (.int .i64 0)), none⟩]) (
 .seq (
 .seq (
 .reg [⟨some 5, .mv (.c (.int .i64 0)), none⟩]) (
 .blk 0 (
 .loop [0, 1, 5] (
 .seq (
 .seq (
 .reg [⟨some 6, .mv (.t 5), none⟩,
 ⟨some 7, .mv (.t 0), none⟩,
 ⟨some 8, .len false (.t 7), none⟩,
 ⟨some 9, .bin .lss (.t 6) (.t 8), none⟩]) (
 .cond (.t 9) (
 .skip) (
 .exit 0))) (
 .seq (
 .blk 1 (
 .seq (
 .seq (
 .reg [⟨some 12, .mv (.t 0), none⟩,
 ⟨some 13, .mv (.t 5), none⟩,
 ⟨some 14, .ixs 84 4 (.t 12) (.t 13), none⟩,
 ⟨some 15, .fld 0 (.t 14), none⟩,
 ⟨some 16, .fld 0 (.t 15), none⟩,
 ⟨some 17, .ld none (.t 16), none⟩,
 ⟨some 18, .mv (.t 1), none⟩,
 ⟨some 19, .bin .neq (.t 17) (.t 18), none⟩]) (
 .cond (.t 19) (
 .seq (
 .reg [⟨some 4, .mv (.c (.int .i64 (-1))), none⟩]) (
 .ret)) (
 .skip))) (
 .seq (
 .reg [⟨some 20, .mv (.t 1), none⟩,
 ⟨some 21, .bin .add (.t 20) (.c (.int .i64 1)), none⟩,
 ⟨some 1, .mv (.t 21), none⟩]) (
 .seq (
 .seq (
 .reg [⟨some 22, .mv (.t 0), none⟩,
 ⟨some 23, .mv (.t 5), none⟩,
 ⟨some 24, .ixs 84 4 (.t 22) (.t 23), none⟩,
 ⟨some 25, .fld 0 (.t 24), none⟩,
 ⟨some 26, .fld 1 (.t 25), none⟩,
 ⟨some 27, .ld none (.t 26), none⟩,
 ⟨some 28, .mv (.t 1), none⟩,
 ⟨some 29, .bin .neq (.t 27) (.t 28), none⟩]) (
 .cond (.t 29) (
 .seq (
 .reg [⟨some 4, .mv (.c (.int .i64 (-1))), none⟩]) (
 .ret)) (
 .skip))) (
 .seq (
 .reg [⟨some 30, .mv (.t 1), none⟩,
 ⟨some 31, .bin .add (.t 30) (.c (.int .i64 1)), none⟩,
 ⟨some 1, .mv (.t 31), none⟩]) (
 .seq (
 .seq (
 .reg [⟨some 32, .mv (.t 0), none⟩,
 ⟨some 33, .mv (.t 5), none⟩,
 ⟨some 34, .ixs 84 4 (.t 32) (.t 33), none⟩,
 ⟨some 35, .fld 2 (.t 34), none⟩,
 ⟨some 36, .fld 0 (.t 35), none⟩,
 ⟨some 37, .ld none (.t 36), none⟩,
 ⟨some 38, .mv (.t 1), none⟩,
 ⟨some 39, .bin .neq (.t 37) (.t 38), none⟩]) (
 .cond (.t 39) (
 .seq (
 .reg [⟨some 4, .mv (.c (.int .i64 (-1))), none⟩]) (
 .ret)) (
 .skip))) (
 .seq (
 .reg [⟨some 40, .mv (.t 1), none⟩,
 ⟨some 41, .bin .add (.t 40) (.c (.int .i64 1)), none⟩,
 ⟨some 1, .mv (.t 41), none⟩]) (
 .seq (
 .seq (
 .reg [⟨some 42, .mv (.t 0), none⟩,
 ⟨some 43, .mv (.t 5), none⟩,
 ⟨some 44, .ixs 84 4 (.t 42) (.t 43), none⟩,
 ⟨some 45, .fld 2 (.t 44), none⟩,
 ⟨some 46, .fld 1 (.t 45), none⟩,
 ⟨some 47, .ld none (.t 46), none⟩,
 ⟨some 48, .mv (.t 1), none⟩,
 ⟨some 49, .bin .neq (.t 47) (.t 48), none⟩]) (
 .cond (.t 49) (
 .seq (
 .reg [⟨some 4, .mv (.c (.int .i64 (-1))), none⟩]) (
 .ret)) (
 .skip))) (
 .reg [⟨some 50, .mv (.t 1), none⟩,
 ⟨some 51, .bin .add (.t 50) (.c (.int .i64 1)), none⟩,
 ⟨some 1, .mv (.t 51), none⟩]))))))))) (
 .reg [⟨some 10, .mv (.t 5), none⟩,
 ⟨some 11, .bin .add (.t 10) (.c (.int .i64 1)), none⟩,
 ⟨some 5, .mv (.t 11), none⟩])))))) (
 .seq (
 .reg [⟨some 52, .mv (.t 1), none⟩,
 ⟨some 4, .mv (.t 52), none⟩]) (
 .ret)))⟩
/-- loop.example/collabdoc/impl.StampLess -/
def v37 : VFunc := ⟨0, [.tmp 4],
 .seq (
 .reg [⟨some 2, .box (.t 0), none⟩,
 ⟨some 3, .box (.t 1), none⟩,
 ⟨some 4, .mv (.c (.bool false)), none⟩]) (
 .seq (
 .reg [⟨some 5, .fld 0 (.t 2), none⟩,
 ⟨some 6, .ld none (.t 5), none⟩,
 ⟨some 7, .fld 0 (.t 3), none⟩,
 ⟨some 8, .ld none (.t 7), none⟩,
 ⟨some 9, .bin .lss (.t 6) (.t 8), none⟩,
 ⟨some 10, .mv (.t 9), none⟩,
 ⟨some 11, .fld 0 (.t 2), some (10, false)⟩,
 ⟨some 12, .ld none (.t 11), some (10, false)⟩,
 ⟨some 13, .fld 0 (.t 3), some (10, false)⟩,
 ⟨some 14, .ld none (.t 13), some (10, false)⟩,
 ⟨some 15, .bin .eql (.t 12) (.t 14), some (10, false)⟩,
 ⟨some 16, .mv (.t 15), some (10, false)⟩,
 ⟨some 17, .fld 1 (.t 2), some (16, true)⟩,
 ⟨some 18, .ld none (.t 17), some (16, true)⟩,
 ⟨some 19, .fld 1 (.t 3), some (16, true)⟩,
 ⟨some 20, .ld none (.t 19), some (16, true)⟩,
 ⟨some 21, .bin .lss (.t 18) (.t 20), some (16, true)⟩,
 ⟨some 22, .pick (.t 16) (.t 21) (.c (.bool false)), some (10, false)⟩,
 ⟨some 23, .pick (.t 10) (.c (.bool true)) (.t 22), none⟩,
 ⟨some 4, .mv (.t 23), none⟩]) (
 .ret))⟩
/-- loop.example/collabdoc/laws.szGrantS -/
def v44 : VFunc := ⟨0, [.tmp 4],
 .seq (
 .reg [⟨some 4, .mv (.c (.int .i64 0)), none⟩]) (
 .seq (
 .reg [⟨some 5, .mv (.t 1), none⟩,
 ⟨some 6, .mv (.t 0), none⟩,
 ⟨some 7, .len false (.t 6), none⟩,
 ⟨some 8, .bin .sub (.t 5) (.t 7), none⟩,
 ⟨some 1, .mv (.t 8), none⟩]) (
 .seq (
 .seq (
 .reg [⟨some 9, .mv (.t 1), none⟩,
 ⟨some 10, .bin .lss (.t 9) (.c (.int .i64 0)), none⟩]) (
 .cond (.t 10) (
 .seq (
 .reg [⟨some 4, .mv (.c (.int .i64 (-1))), none⟩]) (
 .ret)) (
 .skip))) (
 .seq (
 .reg [⟨some 11, .mv (.t 1), none⟩,
 ⟨some 4, .mv (.t 11), none⟩]) (
 .ret))))⟩
/-- loop.example/collabdoc/spec.AllowedOps -/
def v45 : VFunc := ⟨0, [.tmp 4],
 .seq (
 .reg [⟨some 4, .mv (.c (.sl [])), none⟩]) (
 .seq (
 .reg [⟨some 7, .bsl true 39 12 [], none⟩,
 ⟨some 5, .mv (.t 7), none⟩]) (
 .seq (
 .seq (
 .reg [⟨some 8, .mv (.t 0), none⟩,
 ⟨some 9, .call 54 [] none [(.t 8)], none⟩,
 ⟨some 10, .not (.t 9), none⟩,
 ⟨some 11, .mv (.t 10), none⟩,
 ⟨some 12, .mv (.t 1), some (11, false)⟩,
 ⟨some 13, .call 76 [] none [(.t 12)], some (11, false)⟩,
 ⟨some 14, .not (.t 13), some (11, false)⟩,
 ⟨some 15, .pick (.t 11) (.c (.bool true)) (.t 14), none⟩]) (
 .cond (.t 15) (
 .seq (
 .reg [⟨some 4, .mv (.c (.sl [])), none⟩]) (
 .ret)) (
 .skip))) (
 .seq (
 .seq (
 .reg [⟨some 6, .mv (.c (.int .i64 0)), none⟩]) (
 .blk 0 (
 .loop [0, 1, 5, 6] (
 .seq (
 .seq (
 .reg [⟨some 16, .mv (.t 6), none⟩,
 ⟨some 17, .mv (.t 0), none⟩,
 ⟨some 18, .len false (.t 17), none⟩,
 ⟨some 19, .bin .lss (.t 16) (.t 18), none⟩]) (
 .cond (.t 19) (
 .skip) (
 .exit 0))) (
 .seq (
 .blk 1 (
 .seq (
 .reg [⟨some 22, .mv (.t 1), none⟩,
 ⟨some 23, .mv (.t 0), none⟩,
 ⟨some 24, .mv (.t 6), none⟩,
 ⟨some 25, .ixs 39 12 (.t 23) (.t 24), none⟩,
 ⟨some 26, .ld (some 12) (.t 25), none⟩,
 ⟨some 27, .call 77 [] none [(.t 22), (.t 26)], none⟩]) (
 .cond (.t 27) (
 .reg [⟨some 28, .mv (.t 5), none⟩,
 ⟨some 29, .mv (.t 0), none⟩,
 ⟨some 30, .mv (.t 6), none⟩,
 ⟨some 31, .ixs 39 12 (.t 29) (.t 30), none⟩,
 ⟨some 32, .ld (some 12) (.t 31), none⟩,
 ⟨some 33, .bsl false 39 12 [(.t 32)], none⟩,
 ⟨some 34, .app true 39 [.int .i64 0, .int .i64 0, .int .i64 0, .int .i64 0, .int .i64 0, .int .i64 0, .int .i64 0, .int .i64 0, .int .i64 0, .int .i64 0, .bool false, .str []] (.t 28) (.t 33), none⟩,
 ⟨some 5, .mv (.t 34), none⟩]) (
 .skip)))) (
 .reg [⟨some 20, .mv (.t 6), none⟩,
 ⟨some 21, .bin .add (.t 20) (.c (.int .i64 1)), none⟩,
 ⟨some 6, .mv (.t 21), none⟩])))))) (
 .seq (
 .reg [⟨some 35, .mv (.t 5), none⟩,
 ⟨some 4, .mv (.t 35), none⟩]) (
 .ret)))))⟩
/-- loop.example/collabdoc/laws.toGrantS -/
def v46 : VFunc := ⟨0, [.tmp 2],
 .seq (
 .reg [⟨some 2, .mv (.c .nsl), none⟩]) (
 .seq (
 .reg [⟨some 5, .mv (.t 0), none⟩,
 ⟨some 6, .len false (.t 5), none⟩,
 ⟨some 7, .mks 65 [.int .i64 0, .int .i64 0, .int .i64 0, .int .i64 0, .bool false] (.t 6) (.t 6), none⟩,
 ⟨some 3, .mv (.t 7), none⟩]) (
 .seq (
 .seq (
 .reg [⟨some 4, .mv (.c (.int .i64 0)), none⟩]) (
 .blk 0 (
 .loop [0, 3, 4] (
 .seq (
 .seq (
 .reg [⟨some 8, .mv (.t 4), none⟩,
 ⟨some 9, .mv (.t 0), none⟩,
 ⟨some 10, .len false (.t 9), none⟩,
 ⟨some 11, .bin .lss (.t 8) (.t 10), none⟩]) (
 .cond (.t 11) (
 .skip) (
 .exit 0))) (
 .seq (
 .blk 1 (
 .reg [⟨some 14, .mv (.t 3), none⟩,
 ⟨some 15, .mv (.t 4), none⟩,
 ⟨some 16, .mv (.t 0), none⟩,
 ⟨some 17, .mv (.t 4), none⟩,
 ⟨some 18, .ixs 90 5 (.t 16) (.t 17), none⟩,
 ⟨some 19, .ld (some 5) (.t 18), none⟩,
 ⟨some 20, .call 78 [] none [(.t 19)], none⟩,
 ⟨some 21, .ixs 65 5 (.t 14) (.t 15), none⟩,
 ⟨none, .sto 5 (.t 21) (.t 20), none⟩])) (
 .reg [⟨some 12, .mv (.t 4), none⟩,
 ⟨some 13, .bin .add (.t 12) (.c (.int .i64 1)), none⟩,
 ⟨some 4, .mv (.t 13), none⟩])))))) (
 .seq (
 .reg [⟨some 22, .mv (.t 3), none⟩,
 ⟨some 2, .mv (.t 22), none⟩]) (
 .ret))))⟩
/-- loop.example/collabdoc/impl.AllowedOps -/
def v47 : VFunc := ⟨0, [.tmp 4],
 .seq (
 .reg [⟨some 4, .mv (.c .nsl), none⟩]) (
 .seq (
 .seq (
 .reg [⟨some 9, .mv (.t 0), none⟩,
 ⟨some 10, .call 31 [] none [(.t 9)], none⟩,
 ⟨some 11, .not (.t 10), none⟩,
 ⟨some 12, .mv (.t 11), none⟩,
 ⟨some 13, .mv (.t 1), some (12, false)⟩,
 ⟨some 14, .call 51 [] none [(.t 13)], some (12, false)⟩,
 ⟨some 15, .not (.t 14), some (12, false)⟩,
 ⟨some 16, .pick (.t 12) (.c (.bool true)) (.t 15), none⟩]) (
 .cond (.t 16) (
 .seq (
 .reg [⟨some 4, .mv (.c .nsl), none⟩]) (
 .ret)) (
 .skip))) (
 .seq (
 .reg [⟨some 17, .bsl true 39 12 [], none⟩,
 ⟨some 5, .mv (.t 17), none⟩]) (
 .seq (
 .seq (
 .reg [⟨some 18, .mv (.t 0), none⟩,
 ⟨some 19, .len false (.t 18), none⟩,
 ⟨some 20, .mv (.c (.int .i64 0)), none⟩]) (
 .blk 0 (
 .loop [1, 5, 18, 19, 20] (
 .seq (
 .reg [⟨some 21, .bin .lss (.t 20) (.t 19), none⟩]) (
 .seq (
 .cond (.t 21) (
 .skip) (
 .exit 0)) (
 .seq (
 .blk 1 (
 .seq (
 .reg [⟨some 22, .ixs 39 12 (.t 18) (.t 20), none⟩,
 ⟨some 23, .ld (some 12) (.t 22), none⟩,
 ⟨some 7, .alloc [.int .i64 0, .int .i64 0, .int .i64 0, .int .i64 0, .int .i64 0, .int .i64 0, .int .i64 0, .int .i64 0, .int .i64 0, .int .i64 0, .bool false, .str []], none⟩,
 ⟨none, .sto 12 (.t 7) (.t 23), none⟩]) (
 .seq (
 .reg [⟨some 8, .mv (.c (.int .i64 2)), none⟩]) (
 .seq (
 .seq (
 .reg [⟨some 24, .fld 2 (.t 7), none⟩,
 ⟨some 25, .ld none (.t 24), none⟩,
 ⟨some 26, .bin .eql (.t 25) (.c (.int .i64 8)), none⟩,
 ⟨some 27, .mv (.t 26), none⟩,
 ⟨some 28, .fld 2 (.t 7), some (27, false)⟩,
 ⟨some 29, .ld none (.t 28), some (27, false)⟩,
 ⟨some 30, .bin .eql (.t 29) (.c (.int .i64 9)), some (27, false)⟩,
 ⟨some 31, .pick (.t 27) (.c (.bool true)) (.t 30), none⟩]) (
 .cond (.t 31) (
 .reg [⟨some 8, .mv (.c (.int .i64 1)), none⟩]) (
 .skip))) (
 .seq (
 .reg [⟨some 32, .mv (.t 1), none⟩,
 ⟨some 33, .fld 0 (.t 7), none⟩,
 ⟨some 34, .fld 1 (.t 33), none⟩,
 ⟨some 35, .ld none (.t 34), none⟩,
 ⟨some 36, .fld 0 (.t 7), none⟩,
 ⟨some 37, .ld (some 2) (.t 36), none⟩,
 ⟨some 38, .call 52 [] none [(.t 32), (.t 35), (.t 37)], none⟩,
 ⟨some 39, .mv (.t 8), none⟩,
 ⟨some 40, .bin .geq (.t 38) (.t 39), none⟩]) (
 .cond (.t 40) (
 .reg [⟨some 41, .mv (.t 5), none⟩,
 ⟨some 42, .ld (some 12) (.t 7), none⟩,
 ⟨some 43, .bsl false 39 12 [(.t 42)], none⟩,
 ⟨some 44, .app true 39 [.int .i64 0, .int .i64 0, .int .i64 0, .int .i64 0, .int .i64 0, .int .i64 0, .int .i64 0, .int .i64 0, .int .i64 0, .int .i64 0, .bool false, .str []] (.t 41) (.t 43), none⟩,
 ⟨some 5, .mv (.t 44), none⟩]) (
 .skip))))))) (
 .reg [⟨some 45, .bin .add (.t 20) (.c (.int .i64 1)), none⟩,
 ⟨some 20, .mv (.t 45), none⟩]))))))) (
 .seq (
 .reg [⟨some 46, .mv (.t 5), none⟩,
 ⟨some 4, .mv (.t 46), none⟩]) (
 .ret)))))⟩
/-- loop.example/collabdoc/laws.eqGrantS -/
def v48 : VFunc := ⟨0, [.tmp 4],
 .seq (
 .reg [⟨some 4, .mv (.c (.bool false)), none⟩]) (
 .seq (
 .seq (
 .reg [⟨some 6, .mv (.t 0), none⟩,
 ⟨some 7, .len false (.t 6), none⟩,
 ⟨some 8, .mv (.t 1), none⟩,
 ⟨some 9, .len false (.t 8), none⟩,
 ⟨some 10, .bin .neq (.t 7) (.t 9), none⟩]) (
 .cond (.t 10) (
 .seq (
 .reg [⟨some 4, .mv (.c (.bool false)), none⟩]) (
 .ret)) (
 .skip))) (
 .seq (
 .seq (
 .reg [⟨some 5, .mv (.c (.int .i64 0)), none⟩]) (
 .blk 0 (
 .loop [0, 1, 5] (
 .seq (
 .seq (
 .reg [⟨some 11, .mv (.t 5), none⟩,
 ⟨some 12, .mv (.t 0), none⟩,
 ⟨some 13, .len false (.t 12), none⟩,
 ⟨some 14, .bin .lss (.t 11) (.t 13), none⟩]) (
 .cond (.t 14) (
 .skip) (
 .exit 0))) (
 .seq (
 .blk 1 (
 .seq (
 .reg [⟨some 17, .mv (.t 0), none⟩,
 ⟨some 18, .mv (.t 5), none⟩,
 ⟨some 19, .ixs 65 5 (.t 17) (.t 18), none⟩,
 ⟨some 20, .ld (some 5) (.t 19), none⟩,
 ⟨some 21, .mv (.t 1), none⟩,
 ⟨some 22, .mv (.t 5), none⟩,
 ⟨some 23, .ixs 65 5 (.t 21) (.t 22), none⟩,
 ⟨some 24, .ld (some 5) (.t 23), none⟩,
 ⟨some 25, .call 79 [] none [(.t 20), (.t 24)], none⟩,
 ⟨some 26, .not (.t 25), none⟩]) (
 .cond (.t 26) (
 .seq (
 .reg [⟨some 4, .mv (.c (.bool false)), none⟩]) (
 .ret)) (
 .skip)))) (
 .reg [⟨some 15, .mv (.t 5), none⟩,
 ⟨some 16, .bin .add (.t 15) (.c (.int .i64 1)), none⟩,
 ⟨some 5, .mv (.t 16), none⟩])))))) (
 .seq (
 .reg [⟨some 4, .mv (.c (.bool true)), none⟩]) (
 .ret))))⟩
/-- loop.example/collabdoc/laws.markGrantS -/
def v49 : VFunc := ⟨1, [.tmp 4],
 .seq (
 .reg [⟨some 4, .mv (.c (.int .i64 0)), none⟩]) (
 .seq (
 .seq (
 .reg [⟨some 5, .mv (.c (.int .i64 0)), none⟩]) (
 .blk 0 (
 .loop [0, 1, 5] (
 .seq (
 .seq (
 .reg [⟨some 6, .mv (.t 5), none⟩,
 ⟨some 7, .mv (.t 0), none⟩,
 ⟨some 8, .len false (.t 7), none⟩,
 ⟨some 9, .bin .lss (.t 6) (.t 8), none⟩]) (
 .cond (.t 9) (
 .skip) (
 .exit 0))) (
 .seq (
 .blk 1 (
 .seq (
 .reg [⟨some 12, .mv (.t 0), none⟩,
 ⟨some 13, .mv (.t 5), none⟩,
 ⟨some 14, .mv (.t 1), none⟩,
 ⟨some 15, .ixs 65 5 (.t 12) (.t 13), none⟩,
 ⟨some 16, .fld 0 (.t 15), none⟩,
 ⟨some 17, .fld 0 (.t 16), none⟩,
 ⟨none, .sto 1 (.t 17) (.t 14), none⟩]) (
 .seq (
 .reg [⟨some 18, .mv (.t 1), none⟩,
 ⟨some 19, .bin .add (.t 18) (.c (.int .i64 1)), none⟩,
 ⟨some 1, .mv (.t 19), none⟩]) (
 .seq (
 .reg [⟨some 20, .mv (.t 0), none⟩,
 ⟨some 21, .mv (.t 5), none⟩,
 ⟨some 22, .mv (.t 1), none⟩,
 ⟨some 23, .ixs 65 5 (.t 20) (.t 21), none⟩,
 ⟨some 24, .fld 0 (.t 23), none⟩,
 ⟨some 25, .fld 1 (.t 24), none⟩,
 ⟨none, .sto 1 (.t 25) (.t 22), none⟩]) (
 .seq (
 .reg [⟨some 26, .mv (.t 1), none⟩,
 ⟨some 27, .bin .add (.t 26) (.c (.int .i64 1)), none⟩,
 ⟨some 1, .mv (.t 27), none⟩]) (
 .seq (
 .reg [⟨some 28, .mv (.t 0), none⟩,
 ⟨some 29, .mv (.t 5), none⟩,
 ⟨some 30, .mv (.t 1), none⟩,
 ⟨some 31, .ixs 65 5 (.t 28) (.t 29), none⟩,
 ⟨some 32, .fld 2 (.t 31), none⟩,
 ⟨none, .sto 1 (.t 32) (.t 30), none⟩]) (
 .seq (
 .reg [⟨some 33, .mv (.t 1), none⟩,
 ⟨some 34, .bin .add (.t 33) (.c (.int .i64 1)), none⟩,
 ⟨some 1, .mv (.t 34), none⟩]) (
 .seq (
 .reg [⟨some 35, .mv (.t 0), none⟩,
 ⟨some 36, .mv (.t 5), none⟩,
 ⟨some 37, .mv (.t 1), none⟩,
 ⟨some 38, .ixs 65 5 (.t 35) (.t 36), none⟩,
 ⟨some 39, .fld 3 (.t 38), none⟩,
 ⟨none, .sto 1 (.t 39) (.t 37), none⟩]) (
 .seq (
 .reg [⟨some 40, .mv (.t 1), none⟩,
 ⟨some 41, .bin .add (.t 40) (.c (.int .i64 1)), none⟩,
 ⟨some 1, .mv (.t 41), none⟩]) (
 .seq (
 .reg [⟨some 42, .mv (.t 0), none⟩,
 ⟨some 43, .mv (.t 5), none⟩,
 ⟨some 44, .mv (.t 1), none⟩,
 ⟨some 45, .bin .rem (.t 44) (.c (.int .i64 3)), none⟩,
 ⟨some 46, .bin .eql (.t 45) (.c (.int .i64 0)), none⟩,
 ⟨some 47, .ixs 65 5 (.t 42) (.t 43), none⟩,
 ⟨some 48, .fld 4 (.t 47), none⟩,
 ⟨none, .sto 1 (.t 48) (.t 46), none⟩]) (
 .reg [⟨some 49, .mv (.t 1), none⟩,
 ⟨some 50, .bin .add (.t 49) (.c (.int .i64 1)), none⟩,
 ⟨some 1, .mv (.t 50), none⟩]))))))))))) (
 .reg [⟨some 10, .mv (.t 5), none⟩,
 ⟨some 11, .bin .add (.t 10) (.c (.int .i64 1)), none⟩,
 ⟨some 5, .mv (.t 11), none⟩])))))) (
 .seq (
 .reg [⟨some 51, .mv (.t 1), none⟩,
 ⟨some 4, .mv (.t 51), none⟩]) (
 .ret)))⟩
/-- loop.example/collabdoc/impl.ValidGrants -/
def v51 : VFunc := ⟨0, [.tmp 2],
 .seq (
 .reg [⟨some 2, .mv (.c (.bool false)), none⟩]) (
 .seq (
 .seq (
 .reg [⟨some 5, .mv (.t 0), none⟩,
 ⟨some 6, .len false (.t 5), none⟩,
 ⟨some 7, .mv (.c (.int .i64 0)), none⟩]) (
 .blk 0 (
 .loop [0, 5, 6, 7] (
 .seq (
 .reg [⟨some 8, .bin .lss (.t 7) (.t 6), none⟩]) (
 .seq (
 .cond (.t 8) (
 .skip) (
 .exit 0)) (
 .seq (
 .blk 1 (
 .seq (
 .reg [⟨some 9, .mv (.t 7), none⟩,
 ⟨some 10, .ixs 65 5 (.t 5) (.t 7), none⟩,
 ⟨some 11, .ld (some 5) (.t 10), none⟩,
 ⟨some 4, .alloc [.int .i64 0, .int .i64 0, .int .i64 0, .int .i64 0, .bool false], none⟩,
 ⟨some 3, .mv (.t 9), none⟩,
 ⟨none, .sto 5 (.t 4) (.t 11), none⟩]) (
 .seq (
 .reg [⟨some 12, .fld 0 (.t 4), none⟩,
 ⟨some 13, .ld (some 2) (.t 12), none⟩,
 ⟨some 14, .call 81 [] none [(.t 13)], none⟩,
 ⟨some 15, .not (.t 14), none⟩,
 ⟨some 16, .mv (.t 15), none⟩,
 ⟨some 17, .fld 2 (.t 4), some (16, false)⟩,
 ⟨some 18, .ld none (.t 17), some (16, false)⟩,
 ⟨some 19, .call 82 [] none [(.t 18)], some (16, false)⟩,
 ⟨some 20, .not (.t 19), some (16, false)⟩,
 ⟨some 21, .pick (.t 16) (.c (.bool true)) (.t 20), none⟩,
 ⟨some 22, .mv (.t 21), none⟩,
 ⟨some 23, .fld 3 (.t 4), some (22, false)⟩,
 ⟨some 24, .ld none (.t 23), some (22, false)⟩,
 ⟨some 25, .bin .lss (.t 24) (.c (.int .i64 1)), some (22, false)⟩,
 ⟨some 26, .pick (.t 22) (.c (.bool true)) (.t 25), none⟩,
 ⟨some 27, .mv (.t 26), none⟩,
 ⟨some 28, .fld 3 (.t 4), some (27, false)⟩,
 ⟨some 29, .ld none (.t 28), some (27, false)⟩,
 ⟨some 30, .bin .gtr (.t 29) (.c (.int .i64 3)), some (27, false)⟩,
 ⟨some 31, .pick (.t 27) (.c (.bool true)) (.t 30), none⟩,
 ⟨some 32, .mv (.t 31), none⟩,
 ⟨some 33, .mv (.t 3), some (32, false)⟩,
 ⟨some 34, .bin .gtr (.t 33) (.c (.int .i64 0)), some (32, false)⟩,
 ⟨some 35, .mv (.t 34), some (32, false)⟩,
 ⟨some 36, .mv (.t 0), some (35, true)⟩,
 ⟨some 37, .mv (.t 3), some (35, true)⟩,
 ⟨some 38, .bin .sub (.t 37) (.c (.int .i64 1)), some (35, true)⟩,
 ⟨some 39, .ixs 65 5 (.t 36) (.t 38), some (35, true)⟩,
 ⟨some 40, .fld 0 (.t 39), some (35, true)⟩,
 ⟨some 41, .ld (some 2) (.t 40), some (35, true)⟩,
 ⟨some 42, .fld 0 (.t 4), some (35, true)⟩,
 ⟨some 43, .ld (some 2) (.t 42), some (35, true)⟩,
 ⟨some 44, .call 37 [] none [(.t 41), (.t 43)], some (35, true)⟩,
 ⟨some 45, .not (.t 44), some (35, true)⟩,
 ⟨some 46, .pick (.t 35) (.t 45) (.c (.bool false)), some (32, false)⟩,
 ⟨some 47, .pick (.t 32) (.c (.bool true)) (.t 46), none⟩]) (
 .cond (.t 47) (
 .seq (
 .reg [⟨some 2, .mv (.c (.bool false)), none⟩]) (
 .ret)) (
 .skip))))) (
 .reg [⟨some 48, .bin .add (.t 7) (.c (.int .i64 1)), none⟩,
 ⟨some 7, .mv (.t 48), none⟩]))))))) (
 .seq (
 .reg [⟨some 49, .mv (.t 0), none⟩,
 ⟨some 50, .len false (.t 49), none⟩,
 ⟨some 51, .bin .leq (.t 50) (.c (.int .i64 20)), none⟩,
 ⟨some 2, .mv (.t 51), none⟩]) (
 .ret)))⟩
/-- loop.example/collabdoc/impl.RightAt -/
def v52 : VFunc := ⟨0, [.tmp 6],
 .seq (
 .reg [⟨some 5, .box (.t 2), none⟩,
 ⟨some 6, .mv (.c (.int .i64 0)), none⟩]) (
 .seq (
 .seq (
 .reg [⟨some 10, .mv (.t 0), none⟩,
 ⟨some 11, .call 51 [] none [(.t 10)], none⟩,
 ⟨some 12, .not (.t 11), none⟩,
 ⟨some 13, .mv (.t 12), none⟩,
 ⟨some 14, .mv (.t 1), some (13, false)⟩,
 ⟨some 15, .call 82 [] none [(.t 14)], some (13, false)⟩,
 ⟨some 16, .not (.t 15), some (13, false)⟩,
 ⟨some 17, .pick (.t 13) (.c (.bool true)) (.t 16), none⟩]) (
 .cond (.t 17) (
 .seq (
 .reg [⟨some 6, .mv (.c (.int .i64 0)), none⟩]) (
 .ret)) (
 .skip))) (
 .seq (
 .reg [⟨some 18, .call 83 [] none [], none⟩,
 ⟨some 7, .alloc [.int .i64 0, .int .i64 0, .int .i64 0], none⟩,
 ⟨none, .sto 3 (.t 7) (.t 18), none⟩]) (
 .seq (
 .seq (
 .reg [⟨some 19, .mv (.t 0), none⟩,
 ⟨some 20, .len false (.t 19), none⟩,
 ⟨some 21, .mv (.c (.int .i64 0)), none⟩]) (
 .blk 0 (
 .loop [1, 5, 7, 19, 20, 21] (
 .seq (
 .reg [⟨some 22, .bin .lss (.t 21) (.t 20), none⟩]) (
 .seq (
 .cond (.t 22) (
 .skip) (
 .exit 0)) (
 .seq (
 .blk 1 (
 .seq (
 .reg [⟨some 23, .ixs 65 5 (.t 19) (.t 21), none⟩,
 ⟨some 24, .ld (some 5) (.t 23), none⟩,
 ⟨some 9, .alloc [.int .i64 0, .int .i64 0, .int .i64 0, .int .i64 0, .bool false], none⟩,
 ⟨none, .sto 5 (.t 9) (.t 24), none⟩]) (
 .seq (
 .reg [⟨some 25, .fld 0 (.t 9), none⟩,
 ⟨some 26, .ld (some 2) (.t 25), none⟩,
 ⟨some 27, .ld (some 2) (.t 5), none⟩,
 ⟨some 28, .call 37 [] none [(.t 26), (.t 27)], none⟩]) (
 .cond (.t 28) (
 .reg [⟨some 29, .ld (some 5) (.t 9), none⟩,
 ⟨some 30, .call 84 [true] none [(.t 7), (.t 29)], none⟩]) (
 .skip))))) (
 .reg [⟨some 31, .bin .add (.t 21) (.c (.int .i64 1)), none⟩,
 ⟨some 21, .mv (.t 31), none⟩]))))))) (
 .seq (
 .reg [⟨some 32, .mv (.t 1), none⟩,
 ⟨some 33, .ixa 3 1 (.t 7) (.t 32), none⟩,
 ⟨some 34, .ld none (.t 33), none⟩,
 ⟨some 6, .mv (.t 34), none⟩]) (
 .ret)))))⟩
/-- loop.example/collabdoc/laws.szOp -/
def v53 : VFunc := ⟨0, [.tmp 4],
 .seq (
 .reg [⟨some 2, .box (.t 0), none⟩,
 ⟨some 4, .mv (.c (.int .i64 0)), none⟩]) (
 .seq (
 .reg [⟨some 5, .mv (.t 1), none⟩,
 ⟨some 6, .fld 11 (.t 2), none⟩,
 ⟨some 7, .ld none (.t 6), none⟩,
 ⟨some 8, .len true (.t 7), none⟩,
 ⟨some 9, .bin .sub (.t 5) (.t 8), none⟩,
 ⟨some 1, .mv (.t 9), none⟩]) (
 .seq (
 .seq (
 .reg [⟨some 10, .mv (.t 1), none⟩,
 ⟨some 11, .bin .lss (.t 10) (.c (.int .i64 0)), none⟩]) (
 .cond (.t 11) (
 .seq (
 .reg [⟨some 4, .mv (.c (.int .i64 (-1))), none⟩]) (
 .ret)) (
 .skip))) (
 .seq (
 .reg [⟨some 12, .mv (.t 1), none⟩,
 ⟨some 4, .mv (.t 12), none⟩]) (
 .ret))))⟩
/-- loop.example/collabdoc/spec.validLog -/
def v54 : VFunc := ⟨0, [.tmp 2],
 .seq (
 .reg [⟨some 2, .mv (.c (.bool false)), none⟩]) (
 .seq (
 .seq (
 .reg [⟨some 3, .mv (.c (.int .i64 0)), none⟩]) (
 .blk 0 (
 .loop [0, 3] (
 .seq (
 .seq (
 .reg [⟨some 4, .mv (.t 3), none⟩,
 ⟨some 5, .mv (.t 0), none⟩,
 ⟨some 6, .len false (.t 5), none⟩,
 ⟨some 7, .bin .lss (.t 4) (.t 6), none⟩]) (
 .cond (.t 7) (
 .skip) (
 .exit 0))) (
 .seq (
 .blk 1 (
 .seq (
 .reg [⟨some 10, .mv (.t 0), none⟩,
 ⟨some 11, .mv (.t 3), none⟩,
 ⟨some 12, .ixs 39 12 (.t 10) (.t 11), none⟩,
 ⟨some 13, .ld (some 12) (.t 12), none⟩,
 ⟨some 14, .call 85 [] none [(.t 13)], none⟩,
 ⟨some 15, .not (.t 14), none⟩,
 ⟨some 16, .mv (.t 15), none⟩,
 ⟨some 17, .mv (.t 3), some (16, false)⟩,
 ⟨some 18, .bin .gtr (.t 17) (.c (.int .i64 0)), some (16, false)⟩,
 ⟨some 19, .mv (.t 18), some (16, false)⟩,
 ⟨some 20, .mv (.t 0), some (19, true)⟩,
 ⟨some 21, .mv (.t 3), some (19, true)⟩,
 ⟨some 22, .bin .sub (.t 21) (.c (.int .i64 1)), some (19, true)⟩,
 ⟨some 23, .ixs 39 12 (.t 20) (.t 22), some (19, true)⟩,
 ⟨some 24, .fld 0 (.t 23), some (19, true)⟩,
 ⟨some 25, .ld (some 2) (.t 24), some (19, true)⟩,
 ⟨some 26, .mv (.t 0), some (19, true)⟩,
 ⟨some 27, .mv (.t 3), some (19, true)⟩,
 ⟨some 28, .ixs 39 12 (.t 26) (.t 27), some (19, true)⟩,
 ⟨some 29, .fld 0 (.t 28), some (19, true)⟩,
 ⟨some 30, .ld (some 2) (.t 29), some (19, true)⟩,
 ⟨some 31, .call 86 [] none [(.t 25), (.t 30)], some (19, true)⟩,
 ⟨some 32, .not (.t 31), some (19, true)⟩,
 ⟨some 33, .pick (.t 19) (.t 32) (.c (.bool false)), some (16, false)⟩,
 ⟨some 34, .pick (.t 16) (.c (.bool true)) (.t 33), none⟩]) (
 .cond (.t 34) (
 .seq (
 .reg [⟨some 2, .mv (.c (.bool false)), none⟩]) (
 .ret)) (
 .skip)))) (
 .reg [⟨some 8, .mv (.t 3), none⟩,
 ⟨some 9, .bin .add (.t 8) (.c (.int .i64 1)), none⟩,
 ⟨some 3, .mv (.t 9), none⟩])))))) (
 .seq (
 .reg [⟨some 35, .mv (.t 0), none⟩,
 ⟨some 36, .len false (.t 35), none⟩,
 ⟨some 37, .bin .leq (.t 36) (.c (.int .i64 40)), none⟩,
 ⟨some 2, .mv (.t 37), none⟩]) (
 .ret)))⟩
/-- loop.example/collabdoc/spec.containsOps -/
def v55 : VFunc := ⟨0, [.tmp 4],
 .seq (
 .reg [⟨some 4, .mv (.c (.bool false)), none⟩]) (
 .seq (
 .seq (
 .reg [⟨some 5, .mv (.c (.int .i64 0)), none⟩]) (
 .blk 0 (
 .loop [0, 1, 5] (
 .seq (
 .seq (
 .reg [⟨some 7, .mv (.t 5), none⟩,
 ⟨some 8, .mv (.t 1), none⟩,
 ⟨some 9, .len false (.t 8), none⟩,
 ⟨some 10, .bin .lss (.t 7) (.t 9), none⟩]) (
 .cond (.t 10) (
 .skip) (
 .exit 0))) (
 .seq (
 .blk 1 (
 .seq (
 .reg [⟨some 13, .mv (.t 0), none⟩,
 ⟨some 14, .mv (.t 1), none⟩,
 ⟨some 15, .mv (.t 5), none⟩,
 ⟨some 16, .ixs 39 12 (.t 14) (.t 15), none⟩,
 ⟨some 17, .fld 0 (.t 16), none⟩,
 ⟨some 18, .ld (some 2) (.t 17), none⟩,
 ⟨some 19, .call 74 [] none [(.t 13), (.t 18)], none⟩,
 ⟨some 6, .mv (.t 19), none⟩]) (
 .seq (
 .reg [⟨some 20, .mv (.t 6), none⟩,
 ⟨some 21, .bin .lss (.t 20) (.c (.int .i64 0)), none⟩,
 ⟨some 22, .mv (.t 21), none⟩,
 ⟨some 23, .mv (.t 0), some (22, false)⟩,
 ⟨some 24, .mv (.t 6), some (22, false)⟩,
 ⟨some 25, .ixs 39 12 (.t 23) (.t 24), some (22, false)⟩,
 ⟨some 26, .ld (some 12) (.t 25), some (22, false)⟩,
 ⟨some 27, .mv (.t 1), some (22, false)⟩,
 ⟨some 28, .mv (.t 5), some (22, false)⟩,
 ⟨some 29, .ixs 39 12 (.t 27) (.t 28), some (22, false)⟩,
 ⟨some 30, .ld (some 12) (.t 29), some (22, false)⟩,
 ⟨some 31, .eqs [.i .i64, .i .i64, .i .i64, .i .i64, .i .i64, .i .i64, .i .i64, .i .i64, .i .i64, .i .i64, .b, .s] true (.t 26) (.t 30), some (22, false)⟩,
 ⟨some 32, .pick (.t 22) (.c (.bool true)) (.t 31), none⟩]) (
 .cond (.t 32) (
 .seq (
 .reg [⟨some 4, .mv (.c (.bool false)), none⟩]) (
 .ret)) (
 .skip))))) (
 .reg [⟨some 11, .mv (.t 5), none⟩,
 ⟨some 12, .bin .add (.t 11) (.c (.int .i64 1)), none⟩,
 ⟨some 5, .mv (.t 12), none⟩])))))) (
 .seq (
 .reg [⟨some 4, .mv (.c (.bool true)), none⟩]) (
 .ret)))⟩
/-- loop.example/collabdoc/laws.toOp -/
def v56 : VFunc := ⟨0, [.cell 2 (some 12)],
 .seq (
 .reg [⟨some 1, .box (.t 0), none⟩,
 ⟨some 2, .alloc [.int .i64 0, .int .i64 0, .int .i64 0, .int .i64 0, .int .i64 0, .int .i64 0, .int .i64 0, .int .i64 0, .int .i64 0, .int .i64 0, .bool false, .str []], none⟩]) (
 .seq (
 .reg [⟨some 3, .alloc [.int .i64 0, .int .i64 0, .int .i64 0, .int .i64 0, .int .i64 0, .int .i64 0, .int .i64 0, .int .i64 0, .int .i64 0, .int .i64 0, .bool false, .str []], none⟩]) (
 .seq (
 .reg [⟨some 4, .fld 0 (.t 1), none⟩,
 ⟨some 5, .ld (some 2) (.t 4), none⟩,
 ⟨some 6, .call 87 [] none [(.t 5)], none⟩,
 ⟨some 7, .fld 0 (.t 3), none⟩,
 ⟨none, .sto 2 (.t 7) (.t 6), none⟩]) (
 .seq (
 .reg [⟨some 8, .fld 2 (.t 1), none⟩,
 ⟨some 9, .ld none (.t 8), none⟩,
 ⟨some 10, .fld 2 (.t 3), none⟩,
 ⟨none, .sto 1 (.t 10) (.t 9), none⟩]) (
 .seq (
 .reg [⟨some 11, .fld 3 (.t 1), none⟩,
 ⟨some 12, .ld (some 2) (.t 11), none⟩,
 ⟨some 13, .call 87 [] none [(.t 12)], none⟩,
 ⟨some 14, .fld 3 (.t 3), none⟩,
 ⟨none, .sto 2 (.t 14) (.t 13), none⟩]) (
 .seq (
 .reg [⟨some 15, .fld 5 (.t 1), none⟩,
 ⟨some 16, .ld (some 2) (.t 15), none⟩,
 ⟨some 17, .call 87 [] none [(.t 16)], none⟩,
 ⟨some 18, .fld 5 (.t 3), none⟩,
 ⟨none, .sto 2 (.t 18) (.t 17), none⟩]) (
 .seq (
 .reg [⟨some 19, .fld 7 (.t 1), none⟩,
 ⟨some 20, .ld (some 2) (.t 19), none⟩,
 ⟨some 21, .call 87 [] none [(.t 20)], none⟩,
 ⟨some 22, .fld 7 (.t 3), none⟩,
 ⟨none, .sto 2 (.t 22) (.t 21), none⟩]) (
 .seq (
 .reg [⟨some 23, .fld 9 (.t 1), none⟩,
 ⟨some 24, .ld none (.t 23), none⟩,
 ⟨some 25, .fld 9 (.t 3), none⟩,
 ⟨none, .sto 1 (.t 25) (.t 24), none⟩]) (
 .seq (
 .reg [⟨some 26, .fld 10 (.t 1), none⟩,
 ⟨some 27, .ld none (.t 26), none⟩,
 ⟨some 28, .fld 10 (.t 3), none⟩,
 ⟨none, .sto 1 (.t 28) (.t 27), none⟩]) (
 .seq (
 .reg [⟨some 29, .fld 11 (.t 1), none⟩,
 ⟨some 30, .ld none (.t 29), none⟩,
 ⟨some 31, .fld 11 (.t 3), none⟩,
 ⟨none, .sto 1 (.t 31) (.t 30), none⟩]) (
 .seq (
 .reg [⟨some 32, .ld (some 12) (.t 3), none⟩,
 ⟨none, .sto 12 (.t 2) (.t 32), none⟩]) (
 .ret)))))))))))⟩
/-- loop.example/collabdoc/impl.logIn -/
def v57 : VFunc := ⟨0, [.tmp 6],
 .seq (
 .reg [⟨some 6, .mv (.c .nsl), none⟩]) (
 .seq (
 .seq (
 .reg [⟨some 10, .mv (.t 0), none⟩,
 ⟨some 11, .call 31 [] none [(.t 10)], none⟩,
 ⟨some 12, .not (.t 11), none⟩,
 ⟨some 13, .mv (.t 12), none⟩,
 ⟨some 14, .mv (.t 1), some (13, false)⟩,
 ⟨some 15, .call 31 [] none [(.t 14)], some (13, false)⟩,
 ⟨some 16, .not (.t 15), some (13, false)⟩,
 ⟨some 17, .pick (.t 13) (.c (.bool true)) (.t 16), none⟩]) (
 .cond (.t 17) (
 .seq (
 .reg [⟨some 6, .mv (.c .nsl), none⟩]) (
 .ret)) (
 .skip))) (
 .seq (
 .reg [⟨some 18, .bsl true 39 12 [], none⟩,
 ⟨some 7, .mv (.t 18), none⟩]) (
 .seq (
 .seq (
 .reg [⟨some 19, .mv (.t 0), none⟩,
 ⟨some 20, .len false (.t 19), none⟩,
 ⟨some 21, .mv (.c (.int .i64 0)), none⟩]) (
 .blk 0 (
 .loop [1, 2, 7, 19, 20, 21] (
 .seq (
 .reg [⟨some 22, .bin .lss (.t 21) (.t 20), none⟩]) (
 .seq (
 .cond (.t 22) (
 .skip) (
 .exit 0)) (
 .seq (
 .blk 1 (
 .seq (
 .reg [⟨some 23, .ixs 39 12 (.t 19) (.t 21), none⟩,
 ⟨some 24, .ld (some 12) (.t 23), none⟩,
 ⟨some 9, .alloc [.int .i64 0, .int .i64 0, .int .i64 0, .int .i64 0, .int .i64 0, .int .i64 0, .int .i64 0, .int .i64 0, .int .i64 0, .int .i64 0, .bool false, .str []], none⟩,
 ⟨none, .sto 12 (.t 9) (.t 24), none⟩]) (
 .seq (
 .reg [⟨some 25, .ld (some 12) (.t 9), none⟩,
 ⟨some 26, .mv (.t 1), none⟩,
 ⟨some 27, .call 67 [] none [(.t 25), (.t 26)], none⟩,
 ⟨some 28, .mv (.t 2), none⟩,
 ⟨some 29, .eqb false (.t 27) (.t 28), none⟩]) (
 .cond (.t 29) (
 .reg [⟨some 30, .mv (.t 7), none⟩,
 ⟨some 31, .ld (some 12) (.t 9), none⟩,
 ⟨some 32, .bsl false 39 12 [(.t 31)], none⟩,
 ⟨some 33, .app true 39 [.int .i64 0, .int .i64 0, .int .i64 0, .int .i64 0, .int .i64 0, .int .i64 0, .int .i64 0, .int .i64 0, .int .i64 0, .int .i64 0, .bool false, .str []] (.t 30) (.t 32), none⟩,
 ⟨some 7, .mv (.t 33), none⟩]) (
 .skip))))) (
 .reg [⟨some 34, .bin .add (.t 21) (.c (.int .i64 1)), none⟩,
 ⟨some 21, .mv (.t 34), none⟩]))))))) (
 .seq (
 .reg [⟨some 35, .mv (.t 7), none⟩,
 ⟨some 6, .mv (.t 35), none⟩]) (
 .ret)))))⟩
/-- loop.example/collabdoc/laws.eqOp -/
def v58 : VFunc := ⟨0, [.tmp 4],
 .seq (
 .reg [⟨some 2, .box (.t 0), none⟩,
 ⟨some 3, .box (.t 1), none⟩,
 ⟨some 4, .mv (.c (.bool false)), none⟩]) (
 .seq (
 .seq (
 .reg [⟨some 5, .fld 0 (.t 2), none⟩,
 ⟨some 6, .ld (some 2) (.t 5), none⟩,
 ⟨some 7, .fld 0 (.t 3), none⟩,
 ⟨some 8, .ld (some 2) (.t 7), none⟩,
 ⟨some 9, .call 88 [] none [(.t 6), (.t 8)], none⟩,
 ⟨some 10, .not (.t 9), none⟩]) (
 .cond (.t 10) (
 .seq (
 .reg [⟨some 4, .mv (.c (.bool false)), none⟩]) (
 .ret)) (
 .skip))) (
 .seq (
 .seq (
 .reg [⟨some 11, .fld 2 (.t 2), none⟩,
 ⟨some 12, .ld none (.t 11), none⟩,
 ⟨some 13, .fld 2 (.t 3), none⟩,
 ⟨some 14, .ld none (.t 13), none⟩,
 ⟨some 15, .bin .neq (.t 12) (.t 14), none⟩]) (
 .cond (.t 15) (
 .seq (
 .reg [⟨some 4, .mv (.c (.bool false)), none⟩]) (
 .ret)) (
 .skip))) (
 .seq (
 .seq (
 .reg [⟨some 16, .fld 3 (.t 2), none⟩,
 ⟨some 17, .ld (some 2) (.t 16), none⟩,
 ⟨some 18, .fld 3 (.t 3), none⟩,
 ⟨some 19, .ld (some 2) (.t 18), none⟩,
 ⟨some 20, .call 88 [] none [(.t 17), (.t 19)], none⟩,
 ⟨some 21, .not (.t 20), none⟩]) (
 .cond (.t 21) (
 .seq (
 .reg [⟨some 4, .mv (.c (.bool false)), none⟩]) (
 .ret)) (
 .skip))) (
 .seq (
 .seq (
 .reg [⟨some 22, .fld 5 (.t 2), none⟩,
 ⟨some 23, .ld (some 2) (.t 22), none⟩,
 ⟨some 24, .fld 5 (.t 3), none⟩,
 ⟨some 25, .ld (some 2) (.t 24), none⟩,
 ⟨some 26, .call 88 [] none [(.t 23), (.t 25)], none⟩,
 ⟨some 27, .not (.t 26), none⟩]) (
 .cond (.t 27) (
 .seq (
 .reg [⟨some 4, .mv (.c (.bool false)), none⟩]) (
 .ret)) (
 .skip))) (
 .seq (
 .seq (
 .reg [⟨some 28, .fld 7 (.t 2), none⟩,
 ⟨some 29, .ld (some 2) (.t 28), none⟩,
 ⟨some 30, .fld 7 (.t 3), none⟩,
 ⟨some 31, .ld (some 2) (.t 30), none⟩,
 ⟨some 32, .call 88 [] none [(.t 29), (.t 31)], none⟩,
 ⟨some 33, .not (.t 32), none⟩]) (
 .cond (.t 33) (
 .seq (
 .reg [⟨some 4, .mv (.c (.bool false)), none⟩]) (
 .ret)) (
 .skip))) (
 .seq (
 .seq (
 .reg [⟨some 34, .fld 9 (.t 2), none⟩,
 ⟨some 35, .ld none (.t 34), none⟩,
 ⟨some 36, .fld 9 (.t 3), none⟩,
 ⟨some 37, .ld none (.t 36), none⟩,
 ⟨some 38, .bin .neq (.t 35) (.t 37), none⟩]) (
 .cond (.t 38) (
 .seq (
 .reg [⟨some 4, .mv (.c (.bool false)), none⟩]) (
 .ret)) (
 .skip))) (
 .seq (
 .seq (
 .reg [⟨some 39, .fld 10 (.t 2), none⟩,
 ⟨some 40, .ld none (.t 39), none⟩,
 ⟨some 41, .fld 10 (.t 3), none⟩,
 ⟨some 42, .ld none (.t 41), none⟩,
 ⟨some 43, .eqb true (.t 40) (.t 42), none⟩]) (
 .cond (.t 43) (
 .seq (
 .reg [⟨some 4, .mv (.c (.bool false)), none⟩]) (
 .ret)) (
 .skip))) (
 .seq (
 .seq (
 .reg [⟨some 44, .fld 11 (.t 2), none⟩,
 ⟨some 45, .ld none (.t 44), none⟩,
 ⟨some 46, .fld 11 (.t 3), none⟩,
 ⟨some 47, .ld none (.t 46), none⟩,
 ⟨some 48, .bin .neq (.t 45) (.t 47), none⟩]) (
 .cond (.t 48) (
 .seq (
 .reg [⟨some 4, .mv (.c (.bool false)), none⟩]) (
 .ret)) (
 .skip))) (
 .seq (
 .reg [⟨some 4, .mv (.c (.bool true)), none⟩]) (
 .ret))))))))))⟩
/-- loop.example/collabdoc/laws.markText -/
def v59 : VFunc := ⟨0, [.tmp 2],
 .seq (
 .reg [⟨some 2, .mv (.c (.str [])), none⟩]) (
 .seq (
 .seq (
 .reg [⟨some 4, .mv (.t 0), none⟩,
 ⟨some 5, .bin .leq (.t 4) (.c (.int .i64 0)), none⟩]) (
 .cond (.t 5) (
 .seq (
 .reg [⟨some 2, .mv (.c (.str [109, 48])), none⟩]) (
 .ret)) (
 .skip))) (
 .seq (
 .reg [⟨some 3, .mv (.c (.str [])), none⟩]) (
 .seq (
 .blk 0 (
 .loop [0, 3] (
 .seq (
 .seq (
 .reg [⟨some 6, .mv (.t 0), none⟩,
 ⟨some 7, .bin .gtr (.t 6) (.c (.int .i64 0)), none⟩]) (
 .cond (.t 7) (
 .skip) (
 .exit 0))) (
 .blk 1 (
 .seq (
 .reg [⟨some 8, .mv (.t 0), none⟩,
 ⟨some 9, .bin .rem (.t 8) (.c (.int .i64 10)), none⟩,
 ⟨some 10, .bin .add (.c (.int .i64 48)) (.t 9), none⟩,
 ⟨some 11, .cvi .u8 (.t 10), none⟩,
 ⟨some 12, .bsl false 5 1 [(.t 11)], none⟩,
 ⟨some 13, .cvbs (.t 12), none⟩,
 ⟨some 14, .mv (.t 3), none⟩,
 ⟨some 15, .bin .add (.t 13) (.t 14), none⟩,
 ⟨some 3, .mv (.t 15), none⟩]) (
 .reg [⟨some 16, .mv (.t 0), none⟩,
 ⟨some 17, .bin .quo (.t 16) (.c (.int .i64 10)), none⟩,
 ⟨some 0, .mv (.t 17), none⟩])))))) (
 .seq (
 .reg [⟨some 18, .mv (.t 3), none⟩,
 ⟨some 19, .bin .add (.c (.str [109])) (.t 18), none⟩,
 ⟨some 2, .mv (.t 19), none⟩]) (
 .ret)))))⟩
/-- loop.example/collabdoc/spec.logDifference -/
def v60 : VFunc := ⟨0, [.tmp 4],
 .seq (
 .reg [⟨some 4, .mv (.c (.sl [])), none⟩]) (
 .seq (
 .reg [⟨some 7, .bsl true 39 12 [], none⟩,
 ⟨some 5, .mv (.t 7), none⟩]) (
 .seq (
 .seq (
 .reg [⟨some 6, .mv (.c (.int .i64 0)), none⟩]) (
 .blk 0 (
 .loop [0, 1, 5, 6] (
 .seq (
 .seq (
 .reg [⟨some 8, .mv (.t 6), none⟩,
 ⟨some 9, .mv (.t 0), none⟩,
 ⟨some 10, .len false (.t 9), none⟩,
 ⟨some 11, .bin .lss (.t 8) (.t 10), none⟩]) (
 .cond (.t 11) (
 .skip) (
 .exit 0))) (
 .seq (
 .blk 1 (
 .seq (
 .reg [⟨some 14, .mv (.t 1), none⟩,
 ⟨some 15, .mv (.t 0), none⟩,
 ⟨some 16, .mv (.t 6), none⟩,
 ⟨some 17, .mv (.t 6), none⟩,
 ⟨some 18, .bin .add (.t 17) (.c (.int .i64 1)), none⟩,
 ⟨some 19, .slc 39 12 (.t 15) (some (.t 16)) (some (.t 18)), none⟩,
 ⟨some 20, .call 55 [] none [(.t 14), (.t 19)], none⟩,
 ⟨some 21, .not (.t 20), none⟩]) (
 .cond (.t 21) (
 .reg [⟨some 22, .mv (.t 5), none⟩,
 ⟨some 23, .mv (.t 0), none⟩,
 ⟨some 24, .mv (.t 6), none⟩,
 ⟨some 25, .ixs 39 12 (.t 23) (.t 24), none⟩,
 ⟨some 26, .ld (some 12) (.t 25), none⟩,
 ⟨some 27, .bsl false 39 12 [(.t 26)], none⟩,
 ⟨some 28, .app true 39 [.int .i64 0, .int .i64 0, .int .i64 0, .int .i64 0, .int .i64 0, .int .i64 0, .int .i64 0, .int .i64 0, .int .i64 0, .int .i64 0, .bool false, .str []] (.t 22) (.t 27), none⟩,
 ⟨some 5, .mv (.t 28), none⟩]) (
 .skip)))) (
 .reg [⟨some 12, .mv (.t 6), none⟩,
 ⟨some 13, .bin .add (.t 12) (.c (.int .i64 1)), none⟩,
 ⟨some 6, .mv (.t 13), none⟩])))))) (
 .seq (
 .reg [⟨some 29, .mv (.t 5), none⟩,
 ⟨some 4, .mv (.t 29), none⟩]) (
 .ret))))⟩
/-- loop.example/collabdoc/impl.isIn -/
def v67 : VFunc := ⟨0, [.tmp 4],
 .seq (
 .reg [⟨some 2, .box (.t 0), none⟩,
 ⟨some 4, .mv (.c (.bool false)), none⟩]) (
 .seq (
 .reg [⟨some 6, .mv (.t 1), none⟩,
 ⟨some 7, .fld 0 (.t 2), none⟩,
 ⟨some 8, .ld (some 2) (.t 7), none⟩,
 ⟨some 9, .call 73 [] none [(.t 6), (.t 8)], none⟩,
 ⟨some 5, .mv (.t 9), none⟩]) (
 .seq (
 .reg [⟨some 10, .mv (.t 5), none⟩,
 ⟨some 11, .bin .geq (.t 10) (.c (.int .i64 0)), none⟩,
 ⟨some 12, .mv (.t 11), none⟩,
 ⟨some 13, .mv (.t 1), some (12, true)⟩,
 ⟨some 14, .mv (.t 5), some (12, true)⟩,
 ⟨some 15, .ixs 39 12 (.t 13) (.t 14), some (12, true)⟩,
 ⟨some 16, .ld (some 12) (.t 15), some (12, true)⟩,
 ⟨some 17, .ld (some 12) (.t 2), some (12, true)⟩,
 ⟨some 18, .eqs [.i .i64, .i .i64, .i .i64, .i .i64, .i .i64, .i .i64, .i .i64, .i .i64, .i .i64, .i .i64, .b, .s] false (.t 16) (.t 17), some (12, true)⟩,
 ⟨some 19, .pick (.t 12) (.t 18) (.c (.bool false)), none⟩,
 ⟨some 4, .mv (.t 19), none⟩]) (
 .ret)))⟩
/-- loop.example/collabdoc/impl.ValidOp -/
def v68 : VFunc := ⟨0, [.tmp 2],
 .seq (
 .reg [⟨some 1, .box (.t 0), none⟩,
 ⟨some 2, .mv (.c (.bool false)), none⟩]) (
 .seq (
 .reg [⟨some 6, .mkf 94 [(.t 1)], none⟩,
 ⟨some 3, .alloc [.junk], none⟩,
 ⟨none, .sto 1 (.t 3) (.t 6), none⟩]) (
 .seq (
 .reg [⟨some 7, .mkf 95 [(.t 3)], none⟩,
 ⟨some 4, .mv (.t 7), none⟩]) (
 .seq (
 .seq (
 .reg [⟨some 8, .fld 0 (.t 1), none⟩,
 ⟨some 9, .ld (some 2) (.t 8), none⟩,
 ⟨some 10, .call 81 [] none [(.t 9)], none⟩,
 ⟨some 11, .not (.t 10), none⟩]) (
 .cond (.t 11) (
 .seq (
 .reg [⟨some 2, .mv (.c (.bool false)), none⟩]) (
 .ret)) (
 .skip))) (
 .seq (
 .reg [⟨some 12, .fld 0 (.t 1), none⟩,
 ⟨some 13, .ld (some 2) (.t 12), none⟩,
 ⟨some 14, .fld 2 (.t 1), none⟩,
 ⟨some 15, .ld none (.t 14), none⟩,
 ⟨some 16, .fld 3 (.t 1), none⟩,
 ⟨some 17, .ld (some 2) (.t 16), none⟩,
 ⟨some 18, .build [.int .i64 0, .int .i64 0, .int .i64 0, .int .i64 0, .int .i64 0, .int .i64 0, .int .i64 0, .int .i64 0, .int .i64 0, .int .i64 0, .bool false, .str []] [(0, 2, (.t 13)), (2, 1, (.t 15)), (3, 2, (.t 17))], none⟩,
 ⟨some 5, .alloc [.int .i64 0, .int .i64 0, .int .i64 0, .int .i64 0, .int .i64 0, .int .i64 0, .int .i64 0, .int .i64 0, .int .i64 0, .int .i64 0, .bool false, .str []], none⟩,
 ⟨none, .sto 12 (.t 5) (.t 18), none⟩]) (
 .seq (
 .seq (
 .reg [⟨some 19, .fld 2 (.t 1), none⟩,
 ⟨some 20, .ld none (.t 19), none⟩]) (
 .blk 0 (
 .seq (
 .reg [⟨some 22, .bin .eql (.t 20) (.c (.int .i64 1)), none⟩,
 ⟨some 21, .mv (.t 22), none⟩]) (
 .cond (.t 21) (
 .seq (
 .rgd [(25, 27)] [⟨some 23, .fld 5 (.t 1), none⟩,
 ⟨some 24, .ld (some 2) (.t 23), none⟩,
 ⟨some 25, .fld 9 (.t 1), none⟩,
 ⟨some 26, .ld none (.t 25), none⟩,
 ⟨some 27, .fld 5 (.t 5), none⟩,
 ⟨none, .sto 2 (.t 27) (.t 24), none⟩,
 ⟨some 28, .fld 9 (.t 5), none⟩,
 ⟨none, .sto 1 (.t 28) (.t 26), none⟩]) (
 .seq (
 .reg [⟨some 29, .ld (some 12) (.t 1), none⟩,
 ⟨some 30, .ld (some 12) (.t 5), none⟩,
 ⟨some 31, .eqs [.i .i64, .i .i64, .i .i64, .i .i64, .i .i64, .i .i64, .i .i64, .i .i64, .i .i64, .i .i64, .b, .s] false (.t 29) (.t 30), none⟩,
 ⟨some 32, .mv (.t 31), none⟩,
 ⟨some 33, .mv (.t 4), some (32, true)⟩,
 ⟨some 34, .fld 3 (.t 1), some (32, true)⟩,
 ⟨some 35, .ld (some 2) (.t 34), some (32, true)⟩,
 ⟨some 36, .callc (.t 33) [(.t 35)], some (32, true)⟩,
 ⟨some 37, .pick (.t 32) (.t 36) (.c (.bool false)), none⟩,
 ⟨some 38, .mv (.t 37), none⟩,
 ⟨some 39, .mv (.t 4), some (38, true)⟩,
 ⟨some 40, .fld 5 (.t 1), some (38, true)⟩,
 ⟨some 41, .ld (some 2) (.t 40), some (38, true)⟩,
 ⟨some 42, .callc (.t 39) [(.t 41)], some (38, true)⟩,
 ⟨some 43, .pick (.t 38) (.t 42) (.c (.bool false)), none⟩,
 ⟨some 44, .mv (.t 43), none⟩,
 ⟨some 45, .fld 9 (.t 1), some (44, true)⟩,
 ⟨some 46, .ld none (.t 45), some (44, true)⟩,
 ⟨some 47, .bin .geq (.t 46) (.c (.int .i64 32)), some (44, true)⟩,
 ⟨some 48, .pick (.t 44) (.t 47) (.c (.bool false)), none⟩,
 ⟨some 49, .mv (.t 48), none⟩,
 ⟨some 50, .fld 9 (.t 1), some (49, true)⟩,
 ⟨some 51, .ld none (.t 50), some (49, true)⟩,
 ⟨some 52, .bin .leq (.t 51) (.c (.int .i64 126)), some (49, true)⟩,
 ⟨some 53, .pick (.t 49) (.t 52) (.c (.bool false)), none⟩,
 ⟨some 2, .mv (.t 53), none⟩]) (
 .ret))) (
 .seq (
 .seq (
 .reg [⟨some 55, .bin .eql (.t 20) (.c (.int .i64 2)), none⟩,
 ⟨some 54, .mv (.t 55), none⟩]) (
 .cond (.t 54) (
 .skip) (
 .reg [⟨some 56, .bin .eql (.t 20) (.c (.int .i64 7)), none⟩,
 ⟨some 54, .mv (.t 56), none⟩]))) (
 .cond (.t 54) (
 .seq (
 .reg [⟨some 57, .ld (some 12) (.t 1), none⟩,
 ⟨some 58, .ld (some 12) (.t 5), none⟩,
 ⟨some 59, .eqs [.i .i64, .i .i64, .i .i64, .i .i64, .i .i64, .i .i64, .i .i64, .i .i64, .i .i64, .i .i64, .b, .s] false (.t 57) (.t 58), none⟩,
 ⟨some 60, .mv (.t 59), none⟩,
 ⟨some 61, .ld none (.t 3), some (60, true)⟩,
 ⟨some 62, .fld 3 (.t 1), some (60, true)⟩,
 ⟨some 63, .ld (some 2) (.t 62), some (60, true)⟩,
 ⟨some 64, .callc (.t 61) [(.t 63)], some (60, true)⟩,
 ⟨some 65, .pick (.t 60) (.t 64) (.c (.bool false)), none⟩,
 ⟨some 2, .mv (.t 65), none⟩]) (
 .ret)) (
 .seq (
 .reg [⟨some 67, .bin .eql (.t 20) (.c (.int .i64 3)), none⟩,
 ⟨some 66, .mv (.t 67), none⟩]) (
 .cond (.t 66) (
 .seq (
 .rgd [(70, 74), (72, 74), (72, 75)] [⟨some 68, .fld 5 (.t 1), none⟩,
 ⟨some 69, .ld (some 2) (.t 68), none⟩,
 ⟨some 70, .fld 9 (.t 1), none⟩,
 ⟨some 71, .ld none (.t 70), none⟩,
 ⟨some 72, .fld 10 (.t 1), none⟩,
 ⟨some 73, .ld none (.t 72), none⟩,
 ⟨some 74, .fld 5 (.t 5), none⟩,
 ⟨none, .sto 2 (.t 74) (.t 69), none⟩,
 ⟨some 75, .fld 9 (.t 5), none⟩,
 ⟨none, .sto 1 (.t 75) (.t 71), none⟩,
 ⟨some 76, .fld 10 (.t 5), none⟩,
 ⟨none, .sto 1 (.t 76) (.t 73), none⟩]) (
 .seq (
 .reg [⟨some 77, .ld (some 12) (.t 1), none⟩,
 ⟨some 78, .ld (some 12) (.t 5), none⟩,
 ⟨some 79, .eqs [.i .i64, .i .i64, .i .i64, .i .i64, .i .i64, .i .i64, .i .i64, .i .i64, .i .i64, .i .i64, .b, .s] false (.t 77) (.t 78), none⟩,
 ⟨some 80, .mv (.t 79), none⟩,
 ⟨some 81, .ld none (.t 3), some (80, true)⟩,
 ⟨some 82, .fld 3 (.t 1), some (80, true)⟩,
 ⟨some 83, .ld (some 2) (.t 82), some (80, true)⟩,
 ⟨some 84, .callc (.t 81) [(.t 83)], some (80, true)⟩,
 ⟨some 85, .pick (.t 80) (.t 84) (.c (.bool false)), none⟩,
 ⟨some 86, .mv (.t 85), none⟩,
 ⟨some 87, .ld none (.t 3), some (86, true)⟩,
 ⟨some 88, .fld 5 (.t 1), some (86, true)⟩,
 ⟨some 89, .ld (some 2) (.t 88), some (86, true)⟩,
 ⟨some 90, .callc (.t 87) [(.t 89)], some (86, true)⟩,
 ⟨some 91, .pick (.t 86) (.t 90) (.c (.bool false)), none⟩,
 ⟨some 92, .mv (.t 91), none⟩,
 ⟨some 93, .fld 9 (.t 1), some (92, true)⟩,
 ⟨some 94, .ld none (.t 93), some (92, true)⟩,
 ⟨some 95, .bin .geq (.t 94) (.c (.int .i64 1)), some (92, true)⟩,
 ⟨some 96, .pick (.t 92) (.t 95) (.c (.bool false)), none⟩,
 ⟨some 97, .mv (.t 96), none⟩,
 ⟨some 98, .fld 9 (.t 1), some (97, true)⟩,
 ⟨some 99, .ld none (.t 98), some (97, true)⟩,
 ⟨some 100, .bin .leq (.t 99) (.c (.int .i64 3)), some (97, true)⟩,
 ⟨some 101, .pick (.t 97) (.t 100) (.c (.bool false)), none⟩,
 ⟨some 2, .mv (.t 101), none⟩]) (
 .ret))) (
 .seq (
 .reg [⟨some 103, .bin .eql (.t 20) (.c (.int .i64 4)), none⟩,
 ⟨some 102, .mv (.t 103), none⟩]) (
 .cond (.t 102) (
 .seq (
 .rgd [(106, 108)] [⟨some 104, .fld 5 (.t 1), none⟩,
 ⟨some 105, .ld (some 2) (.t 104), none⟩,
 ⟨some 106, .fld 9 (.t 1), none⟩,
 ⟨some 107, .ld none (.t 106), none⟩,
 ⟨some 108, .fld 5 (.t 5), none⟩,
 ⟨none, .sto 2 (.t 108) (.t 105), none⟩,
 ⟨some 109, .fld 9 (.t 5), none⟩,
 ⟨none, .sto 1 (.t 109) (.t 107), none⟩]) (
 .seq (
 .reg [⟨some 110, .ld (some 12) (.t 1), none⟩,
 ⟨some 111, .ld (some 12) (.t 5), none⟩,
 ⟨some 112, .eqs [.i .i64, .i .i64, .i .i64, .i .i64, .i .i64, .i .i64, .i .i64, .i .i64, .i .i64, .i .i64, .b, .s] false (.t 110) (.t 111), none⟩,
 ⟨some 113, .mv (.t 112), none⟩,
 ⟨some 114, .mv (.t 4), some (113, true)⟩,
 ⟨some 115, .fld 3 (.t 1), some (113, true)⟩,
 ⟨some 116, .ld (some 2) (.t 115), some (113, true)⟩,
 ⟨some 117, .callc (.t 114) [(.t 116)], some (113, true)⟩,
 ⟨some 118, .pick (.t 113) (.t 117) (.c (.bool false)), none⟩,
 ⟨some 119, .mv (.t 118), none⟩,
 ⟨some 120, .mv (.t 4), some (119, true)⟩,
 ⟨some 121, .fld 5 (.t 1), some (119, true)⟩,
 ⟨some 122, .ld (some 2) (.t 121), some (119, true)⟩,
 ⟨some 123, .callc (.t 120) [(.t 122)], some (119, true)⟩,
 ⟨some 124, .pick (.t 119) (.t 123) (.c (.bool false)), none⟩,
 ⟨some 125, .mv (.t 124), none⟩,
 ⟨some 126, .fld 9 (.t 1), some (125, true)⟩,
 ⟨some 127, .ld none (.t 126), some (125, true)⟩,
 ⟨some 128, .bin .geq (.t 127) (.c (.int .i64 1)), some (125, true)⟩,
 ⟨some 129, .pick (.t 125) (.t 128) (.c (.bool false)), none⟩,
 ⟨some 130, .mv (.t 129), none⟩,
 ⟨some 131, .fld 9 (.t 1), some (130, true)⟩,
 ⟨some 132, .ld none (.t 131), some (130, true)⟩,
 ⟨some 133, .bin .leq (.t 132) (.c (.int .i64 4)), some (130, true)⟩,
 ⟨some 134, .pick (.t 130) (.t 133) (.c (.bool false)), none⟩,
 ⟨some 2, .mv (.t 134), none⟩]) (
 .ret))) (
 .seq (
 .reg [⟨some 136, .bin .eql (.t 20) (.c (.int .i64 5)), none⟩,
 ⟨some 135, .mv (.t 136), none⟩]) (
 .cond (.t 135) (
 .seq (
 .rgd [(139, 141)] [⟨some 137, .fld 5 (.t 1), none⟩,
 ⟨some 138, .ld (some 2) (.t 137), none⟩,
 ⟨some 139, .fld 7 (.t 1), none⟩,
 ⟨some 140, .ld (some 2) (.t 139), none⟩,
 ⟨some 141, .fld 5 (.t 5), none⟩,
 ⟨none, .sto 2 (.t 141) (.t 138), none⟩,
 ⟨some 142, .fld 7 (.t 5), none⟩,
 ⟨none, .sto 2 (.t 142) (.t 140), none⟩]) (
 .seq (
 .reg [⟨some 143, .ld (some 12) (.t 1), none⟩,
 ⟨some 144, .ld (some 12) (.t 5), none⟩,
 ⟨some 145, .eqs [.i .i64, .i .i64, .i .i64, .i .i64, .i .i64, .i .i64, .i .i64, .i .i64, .i .i64, .i .i64, .b, .s] false (.t 143) (.t 144), none⟩,
 ⟨some 146, .mv (.t 145), none⟩,
 ⟨some 147, .ld none (.t 3), some (146, true)⟩,
 ⟨some 148, .fld 3 (.t 1), some (146, true)⟩,
 ⟨some 149, .ld (some 2) (.t 148), some (146, true)⟩,
 ⟨some 150, .callc (.t 147) [(.t 149)], some (146, true)⟩,
 ⟨some 151, .pick (.t 146) (.t 150) (.c (.bool false)), none⟩,
 ⟨some 152, .mv (.t 151), none⟩,
 ⟨some 153, .mv (.t 4), some (152, true)⟩,
 ⟨some 154, .fld 5 (.t 1), some (152, true)⟩,
 ⟨some 155, .ld (some 2) (.t 154), some (152, true)⟩,
 ⟨some 156, .callc (.t 153) [(.t 155)], some (152, true)⟩,
 ⟨some 157, .pick (.t 152) (.t 156) (.c (.bool false)), none⟩,
 ⟨some 158, .mv (.t 157), none⟩,
 ⟨some 159, .mv (.t 4), some (158, true)⟩,
 ⟨some 160, .fld 7 (.t 1), some (158, true)⟩,
 ⟨some 161, .ld (some 2) (.t 160), some (158, true)⟩,
 ⟨some 162, .callc (.t 159) [(.t 161)], some (158, true)⟩,
 ⟨some 163, .pick (.t 158) (.t 162) (.c (.bool false)), none⟩,
 ⟨some 2, .mv (.t 163), none⟩]) (
 .ret))) (
 .seq (
 .reg [⟨some 165, .bin .eql (.t 20) (.c (.int .i64 6)), none⟩,
 ⟨some 164, .mv (.t 165), none⟩]) (
 .cond (.t 164) (
 .seq (
 .reg [⟨some 166, .fld 9 (.t 1), none⟩,
 ⟨some 167, .ld none (.t 166), none⟩,
 ⟨some 168, .fld 9 (.t 5), none⟩,
 ⟨none, .sto 1 (.t 168) (.t 167), none⟩]) (
 .seq (
 .reg [⟨some 169, .ld (some 12) (.t 1), none⟩,
 ⟨some 170, .ld (some 12) (.t 5), none⟩,
 ⟨some 171, .eqs [.i .i64, .i .i64, .i .i64, .i .i64, .i .i64, .i .i64, .i .i64, .i .i64, .i .i64, .i .i64, .b, .s] false (.t 169) (.t 170), none⟩,
 ⟨some 172, .mv (.t 171), none⟩,
 ⟨some 173, .ld none (.t 3), some (172, true)⟩,
 ⟨some 174, .fld 3 (.t 1), some (172, true)⟩,
 ⟨some 175, .ld (some 2) (.t 174), some (172, true)⟩,
 ⟨some 176, .callc (.t 173) [(.t 175)], some (172, true)⟩,
 ⟨some 177, .pick (.t 172) (.t 176) (.c (.bool false)), none⟩,
 ⟨some 178, .mv (.t 177), none⟩,
 ⟨some 179, .fld 9 (.t 1), some (178, true)⟩,
 ⟨some 180, .ld none (.t 179), some (178, true)⟩,
 ⟨some 181, .bin .geq (.t 180) (.c (.int .i64 1)), some (178, true)⟩,
 ⟨some 182, .pick (.t 178) (.t 181) (.c (.bool false)), none⟩,
 ⟨some 183, .mv (.t 182), none⟩,
 ⟨some 184, .fld 9 (.t 1), some (183, true)⟩,
 ⟨some 185, .ld none (.t 184), some (183, true)⟩,
 ⟨some 186, .bin .leq (.t 185) (.c (.int .i64 4)), some (183, true)⟩,
 ⟨some 187, .pick (.t 183) (.t 186) (.c (.bool false)), none⟩,
 ⟨some 2, .mv (.t 187), none⟩]) (
 .ret))) (
 .seq (
 .reg [⟨some 189, .bin .eql (.t 20) (.c (.int .i64 8)), none⟩,
 ⟨some 188, .mv (.t 189), none⟩]) (
 .cond (.t 188) (
 .seq (
 .rgd [(192, 194)] [⟨some 190, .fld 5 (.t 1), none⟩,
 ⟨some 191, .ld (some 2) (.t 190), none⟩,
 ⟨some 192, .fld 11 (.t 1), none⟩,
 ⟨some 193, .ld none (.t 192), none⟩,
 ⟨some 194, .fld 5 (.t 5), none⟩,
 ⟨none, .sto 2 (.t 194) (.t 191), none⟩,
 ⟨some 195, .fld 11 (.t 5), none⟩,
 ⟨none, .sto 1 (.t 195) (.t 193), none⟩]) (
 .seq (
 .reg [⟨some 196, .ld (some 12) (.t 1), none⟩,
 ⟨some 197, .ld (some 12) (.t 5), none⟩,
 ⟨some 198, .eqs [.i .i64, .i .i64, .i .i64, .i .i64, .i .i64, .i .i64, .i .i64, .i .i64, .i .i64, .i .i64, .b, .s] false (.t 196) (.t 197), none⟩,
 ⟨some 199, .mv (.t 198), none⟩,
 ⟨some 200, .ld none (.t 3), some (199, true)⟩,
 ⟨some 201, .fld 3 (.t 1), some (199, true)⟩,
 ⟨some 202, .ld (some 2) (.t 201), some (199, true)⟩,
 ⟨some 203, .callc (.t 200) [(.t 202)], some (199, true)⟩,
 ⟨some 204, .pick (.t 199) (.t 203) (.c (.bool false)), none⟩,
 ⟨some 205, .mv (.t 204), none⟩,
 ⟨some 206, .ld none (.t 3), some (205, true)⟩,
 ⟨some 207, .fld 5 (.t 1), some (205, true)⟩,
 ⟨some 208, .ld (some 2) (.t 207), some (205, true)⟩,
 ⟨some 209, .callc (.t 206) [(.t 208)], some (205, true)⟩,
 ⟨some 210, .pick (.t 205) (.t 209) (.c (.bool false)), none⟩,
 ⟨some 211, .mv (.t 210), none⟩,
 ⟨some 212, .fld 11 (.t 1), some (211, true)⟩,
 ⟨some 213, .ld none (.t 212), some (211, true)⟩,
 ⟨some 214, .call 96 [] none [(.t 213)], some (211, true)⟩,
 ⟨some 215, .pick (.t 211) (.t 214) (.c (.bool false)), none⟩,
 ⟨some 2, .mv (.t 215), none⟩]) (
 .ret))) (
 .seq (
 .reg [⟨some 217, .bin .eql (.t 20) (.c (.int .i64 9)), none⟩,
 ⟨some 216, .mv (.t 217), none⟩]) (
 .cond (.t 216) (
 .seq (
 .reg [⟨some 218, .fld 11 (.t 1), none⟩,
 ⟨some 219, .ld none (.t 218), none⟩,
 ⟨some 220, .fld 11 (.t 5), none⟩,
 ⟨none, .sto 1 (.t 220) (.t 219), none⟩]) (
 .seq (
 .reg [⟨some 221, .ld (some 12) (.t 1), none⟩,
 ⟨some 222, .ld (some 12) (.t 5), none⟩,
 ⟨some 223, .eqs [.i .i64, .i .i64, .i .i64, .i .i64, .i .i64, .i .i64, .i .i64, .i .i64, .i .i64, .i .i64, .b, .s] false (.t 221) (.t 222), none⟩,
 ⟨some 224, .mv (.t 223), none⟩,
 ⟨some 225, .ld none (.t 3), some (224, true)⟩,
 ⟨some 226, .fld 3 (.t 1), some (224, true)⟩,
 ⟨some 227, .ld (some 2) (.t 226), some (224, true)⟩,
 ⟨some 228, .callc (.t 225) [(.t 227)], some (224, true)⟩,
 ⟨some 229, .pick (.t 224) (.t 228) (.c (.bool false)), none⟩,
 ⟨some 230, .mv (.t 229), none⟩,
 ⟨some 231, .fld 11 (.t 1), some (230, true)⟩,
 ⟨some 232, .ld none (.t 231), some (230, true)⟩,
 ⟨some 233, .call 96 [] none [(.t 232)], some (230, true)⟩,
 ⟨some 234, .pick (.t 230) (.t 233) (.c (.bool false)), none⟩,
 ⟨some 2, .mv (.t 234), none⟩]) (
 .ret))) (
 .seq (
 .reg [⟨some 236, .bin .eql (.t 20) (.c (.int .i64 10)), none⟩,
 ⟨some 235, .mv (.t 236), none⟩]) (
 .cond (.t 235) (
 .seq (
 .reg [⟨some 237, .fld 10 (.t 1), none⟩,
 ⟨some 238, .ld none (.t 237), none⟩,
 ⟨some 239, .fld 10 (.t 5), none⟩,
 ⟨none, .sto 1 (.t 239) (.t 238), none⟩]) (
 .seq (
 .reg [⟨some 240, .ld (some 12) (.t 1), none⟩,
 ⟨some 241, .ld (some 12) (.t 5), none⟩,
 ⟨some 242, .eqs [.i .i64, .i .i64, .i .i64, .i .i64, .i .i64, .i .i64, .i .i64, .i .i64, .i .i64, .i .i64, .b, .s] false (.t 240) (.t 241), none⟩,
 ⟨some 243, .mv (.t 242), none⟩,
 ⟨some 244, .ld none (.t 3), some (243, true)⟩,
 ⟨some 245, .fld 3 (.t 1), some (243, true)⟩,
 ⟨some 246, .ld (some 2) (.t 245), some (243, true)⟩,
 ⟨some 247, .callc (.t 244) [(.t 246)], some (243, true)⟩,
 ⟨some 248, .pick (.t 243) (.t 247) (.c (.bool false)), none⟩,
 ⟨some 2, .mv (.t 248), none⟩]) (
 .ret))) (
 .skip))))))))))))))))))))) (
 .seq (
 .reg [⟨some 2, .mv (.c (.bool false)), none⟩]) (
 .ret)))))))⟩
/-- loop.example/collabdoc/spec.conflicts -/
def v69 : VFunc := ⟨0, [.tmp 4],
 .seq (
 .reg [⟨some 4, .mv (.c (.sl [])), none⟩]) (
 .seq (
 .reg [⟨some 8, .bsl true 84 4 [], none⟩,
 ⟨some 5, .mv (.t 8), none⟩]) (
 .seq (
 .seq (
 .reg [⟨some 6, .mv (.c (.int .i64 0)), none⟩]) (
 .blk 0 (
 .loop [0, 1, 5, 6] (
 .seq (
 .seq (
 .reg [⟨some 9, .mv (.t 6), none⟩,
 ⟨some 10, .mv (.t 0), none⟩,
 ⟨some 11, .len false (.t 10), none⟩,
 ⟨some 12, .bin .lss (.t 9) (.t 11), none⟩]) (
 .cond (.t 12) (
 .skip) (
 .exit 0))) (
 .seq (
 .blk 1 (
 .seq (
 .reg [⟨some 7, .mv (.c (.int .i64 0)), none⟩]) (
 .blk 2 (
 .loop [0, 1, 5, 6, 7] (
 .seq (
 .seq (
 .reg [⟨some 15, .mv (.t 7), none⟩,
 ⟨some 16, .mv (.t 1), none⟩,
 ⟨some 17, .len false (.t 16), none⟩,
 ⟨some 18, .bin .lss (.t 15) (.t 17), none⟩]) (
 .cond (.t 18) (
 .skip) (
 .exit 2))) (
 .seq (
 .blk 3 (
 .seq (
 .reg [⟨some 21, .mv (.t 0), none⟩,
 ⟨some 22, .mv (.t 6), none⟩,
 ⟨some 23, .ixs 39 12 (.t 21) (.t 22), none⟩,
 ⟨some 24, .ld (some 12) (.t 23), none⟩,
 ⟨some 25, .mv (.t 1), none⟩,
 ⟨some 26, .mv (.t 7), none⟩,
 ⟨some 27, .ixs 39 12 (.t 25) (.t 26), none⟩,
 ⟨some 28, .ld (some 12) (.t 27), none⟩,
 ⟨some 29, .call 97 [] none [(.t 24), (.t 28)], none⟩]) (
 .cond (.t 29) (
 .reg [⟨some 30, .mv (.t 5), none⟩,
 ⟨some 31, .mv (.t 0), none⟩,
 ⟨some 32, .mv (.t 6), none⟩,
 ⟨some 33, .ixs 39 12 (.t 31) (.t 32), none⟩,
 ⟨some 34, .fld 0 (.t 33), none⟩,
 ⟨some 35, .ld (some 2) (.t 34), none⟩,
 ⟨some 36, .mv (.t 1), none⟩,
 ⟨some 37, .mv (.t 7), none⟩,
 ⟨some 38, .ixs 39 12 (.t 36) (.t 37), none⟩,
 ⟨some 39, .fld 0 (.t 38), none⟩,
 ⟨some 40, .ld (some 2) (.t 39), none⟩,
 ⟨some 41, .build [.int .i64 0, .int .i64 0, .int .i64 0, .int .i64 0] [(0, 2, (.t 35)), (2, 2, (.t 40))], none⟩,
 ⟨some 42, .bsl false 84 4 [(.t 41)], none⟩,
 ⟨some 43, .app true 84 [.int .i64 0, .int .i64 0, .int .i64 0, .int .i64 0] (.t 30) (.t 42), none⟩,
 ⟨some 5, .mv (.t 43), none⟩]) (
 .skip)))) (
 .reg [⟨some 19, .mv (.t 7), none⟩,
 ⟨some 20, .bin .add (.t 19) (.c (.int .i64 1)), none⟩,
 ⟨some 7, .mv (.t 20), none⟩]))))))) (
 .reg [⟨some 13, .mv (.t 6), none⟩,
 ⟨some 14, .bin .add (.t 13) (.c (.int .i64 1)), none⟩,
 ⟨some 6, .mv (.t 14), none⟩])))))) (
 .seq (
 .reg [⟨some 44, .mv (.t 5), none⟩,
 ⟨some 4, .mv (.t 44), none⟩]) (
 .ret))))⟩
/-- loop.example/collabdoc/impl.conflicting -/
def v70 : VFunc := ⟨0, [.tmp 4],
 .seq (
 .reg [⟨some 2, .box (.t 0), none⟩,
 ⟨some 3, .box (.t 1), none⟩,
 ⟨some 4, .mv (.c (.bool false)), none⟩]) (
 .seq (
 .seq (
 .reg [⟨some 5, .fld 2 (.t 2), none⟩,
 ⟨some 6, .ld none (.t 5), none⟩,
 ⟨some 7, .bin .lss (.t 6) (.c (.int .i64 5)), none⟩,
 ⟨some 8, .mv (.t 7), none⟩,
 ⟨some 9, .fld 2 (.t 2), some (8, false)⟩,
 ⟨some 10, .ld none (.t 9), some (8, false)⟩,
 ⟨some 11, .bin .gtr (.t 10) (.c (.int .i64 7)), some (8, false)⟩,
 ⟨some 12, .pick (.t 8) (.c (.bool true)) (.t 11), none⟩,
 ⟨some 13, .mv (.t 12), none⟩,
 ⟨some 14, .fld 2 (.t 3), some (13, false)⟩,
 ⟨some 15, .ld none (.t 14), some (13, false)⟩,
 ⟨some 16, .bin .lss (.t 15) (.c (.int .i64 5)), some (13, false)⟩,
 ⟨some 17, .pick (.t 13) (.c (.bool true)) (.t 16), none⟩,
 ⟨some 18, .mv (.t 17), none⟩,
 ⟨some 19, .fld 2 (.t 3), some (18, false)⟩,
 ⟨some 20, .ld none (.t 19), some (18, false)⟩,
 ⟨some 21, .bin .gtr (.t 20) (.c (.int .i64 7)), some (18, false)⟩,
 ⟨some 22, .pick (.t 18) (.c (.bool true)) (.t 21), none⟩,
 ⟨some 23, .mv (.t 22), none⟩,
 ⟨some 24, .fld 3 (.t 2), some (23, false)⟩,
 ⟨some 25, .ld (some 2) (.t 24), some (23, false)⟩,
 ⟨some 26, .fld 3 (.t 3), some (23, false)⟩,
 ⟨some 27, .ld (some 2) (.t 26), some (23, false)⟩,
 ⟨some 28, .eqs [.i .i64, .i .i64] true (.t 25) (.t 27), some (23, false)⟩,
 ⟨some 29, .pick (.t 23) (.c (.bool true)) (.t 28), none⟩]) (
 .cond (.t 29) (
 .seq (
 .reg [⟨some 4, .mv (.c (.bool false)), none⟩]) (
 .ret)) (
 .skip))) (
 .seq (
 .seq (
 .reg [⟨some 30, .fld 2 (.t 2), none⟩,
 ⟨some 31, .ld none (.t 30), none⟩,
 ⟨some 32, .fld 2 (.t 3), none⟩,
 ⟨some 33, .ld none (.t 32), none⟩,
 ⟨some 34, .bin .eql (.t 31) (.t 33), none⟩]) (
 .cond (.t 34) (
 .seq (
 .reg [⟨some 35, .fld 9 (.t 2), none⟩,
 ⟨some 36, .ld none (.t 35), none⟩,
 ⟨some 37, .fld 9 (.t 3), none⟩,
 ⟨some 38, .ld none (.t 37), none⟩,
 ⟨some 39, .bin .neq (.t 36) (.t 38), none⟩,
 ⟨some 40, .mv (.t 39), none⟩,
 ⟨some 41, .fld 7 (.t 2), some (40, false)⟩,
 ⟨some 42, .ld (some 2) (.t 41), some (40, false)⟩,
 ⟨some 43, .fld 7 (.t 3), some (40, false)⟩,
 ⟨some 44, .ld (some 2) (.t 43), some (40, false)⟩,
 ⟨some 45, .eqs [.i .i64, .i .i64] true (.t 42) (.t 44), some (40, false)⟩,
 ⟨some 46, .pick (.t 40) (.c (.bool true)) (.t 45), none⟩,
 ⟨some 47, .mv (.t 46), none⟩,
 ⟨some 48, .fld 5 (.t 2), some (47, false)⟩,
 ⟨some 49, .ld (some 2) (.t 48), some (47, false)⟩,
 ⟨some 50, .fld 5 (.t 3), some (47, false)⟩,
 ⟨some 51, .ld (some 2) (.t 50), some (47, false)⟩,
 ⟨some 52, .eqs [.i .i64, .i .i64] true (.t 49) (.t 51), some (47, false)⟩,
 ⟨some 53, .pick (.t 47) (.c (.bool true)) (.t 52), none⟩,
 ⟨some 4, .mv (.t 53), none⟩]) (
 .ret)) (
 .skip))) (
 .seq (
 .reg [⟨some 54, .fld 2 (.t 2), none⟩,
 ⟨some 55, .ld none (.t 54), none⟩,
 ⟨some 56, .bin .eql (.t 55) (.c (.int .i64 7)), none⟩,
 ⟨some 57, .mv (.t 56), none⟩,
 ⟨some 58, .fld 2 (.t 3), some (57, false)⟩,
 ⟨some 59, .ld none (.t 58), some (57, false)⟩,
 ⟨some 60, .bin .eql (.t 59) (.c (.int .i64 7)), some (57, false)⟩,
 ⟨some 61, .pick (.t 57) (.c (.bool true)) (.t 60), none⟩,
 ⟨some 4, .mv (.t 61), none⟩]) (
 .ret))))⟩
/-- loop.example/collabdoc/laws.eqConflict -/
def v71 : VFunc := ⟨0, [.tmp 4],
 .seq (
 .reg [⟨some 2, .box (.t 0), none⟩,
 ⟨some 3, .box (.t 1), none⟩,
 ⟨some 4, .mv (.c (.bool false)), none⟩]) (
 .seq (
 .seq (
 .reg [⟨some 5, .fld 0 (.t 2), none⟩,
 ⟨some 6, .ld (some 2) (.t 5), none⟩,
 ⟨some 7, .fld 0 (.t 3), none⟩,
 ⟨some 8, .ld (some 2) (.t 7), none⟩,
 ⟨some 9, .call 88 [] none [(.t 6), (.t 8)], none⟩,
 ⟨some 10, .not (.t 9), none⟩]) (
 .cond (.t 10) (
 .seq (
 .reg [⟨some 4, .mv (.c (.bool false)), none⟩]) (
 .ret)) (
 .skip))) (
 .seq (
 .seq (
 .reg [⟨some 11, .fld 2 (.t 2), none⟩,
 ⟨some 12, .ld (some 2) (.t 11), none⟩,
 ⟨some 13, .fld 2 (.t 3), none⟩,
 ⟨some 14, .ld (some 2) (.t 13), none⟩,
 ⟨some 15, .call 88 [] none [(.t 12), (.t 14)], none⟩,
 ⟨some 16, .not (.t 15), none⟩]) (
 .cond (.t 16) (
 .seq (
 .reg [⟨some 4, .mv (.c (.bool false)), none⟩]) (
 .ret)) (
 .skip))) (
 .seq (
 .reg [⟨some 4, .mv (.c (.bool true)), none⟩]) (
 .ret))))⟩
/-- loop.example/collabdoc/impl.opAt -/
def v73 : VFunc := ⟨0, [.tmp 4],
 .seq (
 .reg [⟨some 3, .box (.t 1), none⟩,
 ⟨some 4, .mv (.c (.int .i64 0)), none⟩]) (
 .seq (
 .seq (
 .reg [⟨some 7, .mv (.t 0), none⟩,
 ⟨some 8, .len false (.t 7), none⟩,
 ⟨some 9, .mv (.c (.int .i64 0)), none⟩]) (
 .blk 0 (
 .loop [3, 7, 8, 9] (
 .seq (
 .reg [⟨some 10, .bin .lss (.t 9) (.t 8), none⟩]) (
 .seq (
 .cond (.t 10) (
 .skip) (
 .exit 0)) (
 .seq (
 .blk 1 (
 .seq (
 .reg [⟨some 11, .mv (.t 9), none⟩,
 ⟨some 12, .ixs 39 12 (.t 7) (.t 9), none⟩,
 ⟨some 13, .ld (some 12) (.t 12), none⟩,
 ⟨some 6, .alloc [.int .i64 0, .int .i64 0, .int .i64 0, .int .i64 0, .int .i64 0, .int .i64 0, .int .i64 0, .int .i64 0, .int .i64 0, .int .i64 0, .bool false, .str []], none⟩,
 ⟨some 5, .mv (.t 11), none⟩,
 ⟨none, .sto 12 (.t 6) (.t 13), none⟩]) (
 .seq (
 .reg [⟨some 14, .fld 0 (.t 6), none⟩,
 ⟨some 15, .ld (some 2) (.t 14), none⟩,
 ⟨some 16, .ld (some 2) (.t 3), none⟩,
 ⟨some 17, .eqs [.i .i64, .i .i64] false (.t 15) (.t 16), none⟩]) (
 .cond (.t 17) (
 .seq (
 .reg [⟨some 18, .mv (.t 5), none⟩,
 ⟨some 4, .mv (.t 18), none⟩]) (
 .ret)) (
 .skip))))) (
 .reg [⟨some 19, .bin .add (.t 9) (.c (.int .i64 1)), none⟩,
 ⟨some 9, .mv (.t 19), none⟩]))))))) (
 .seq (
 .reg [⟨some 4, .mv (.c (.int .i64 (-1))), none⟩]) (
 .ret)))⟩
/-- loop.example/collabdoc/spec.findOp -/
def v74 : VFunc := ⟨0, [.tmp 4],
 .seq (
 .reg [⟨some 3, .box (.t 1), none⟩,
 ⟨some 4, .mv (.c (.int .i64 0)), none⟩]) (
 .seq (
 .seq (
 .reg [⟨some 5, .mv (.c (.int .i64 0)), none⟩]) (
 .blk 0 (
 .loop [0, 3, 5] (
 .seq (
 .seq (
 .reg [⟨some 6, .mv (.t 5), none⟩,
 ⟨some 7, .mv (.t 0), none⟩,
 ⟨some 8, .len false (.t 7), none⟩,
 ⟨some 9, .bin .lss (.t 6) (.t 8), none⟩]) (
 .cond (.t 9) (
 .skip) (
 .exit 0))) (
 .seq (
 .blk 1 (
 .seq (
 .reg [⟨some 12, .mv (.t 0), none⟩,
 ⟨some 13, .mv (.t 5), none⟩,
 ⟨some 14, .ixs 39 12 (.t 12) (.t 13), none⟩,
 ⟨some 15, .fld 0 (.t 14), none⟩,
 ⟨some 16, .ld (some 2) (.t 15), none⟩,
 ⟨some 17, .ld (some 2) (.t 3), none⟩,
 ⟨some 18, .eqs [.i .i64, .i .i64] false (.t 16) (.t 17), none⟩]) (
 .cond (.t 18) (
 .seq (
 .reg [⟨some 19, .mv (.t 5), none⟩,
 ⟨some 4, .mv (.t 19), none⟩]) (
 .ret)) (
 .skip)))) (
 .reg [⟨some 10, .mv (.t 5), none⟩,
 ⟨some 11, .bin .add (.t 10) (.c (.int .i64 1)), none⟩,
 ⟨some 5, .mv (.t 11), none⟩])))))) (
 .seq (
 .reg [⟨some 4, .mv (.c (.int .i64 (-1))), none⟩]) (
 .ret)))⟩
/-- loop.example/collabdoc/spec.validGrants -/
def v76 : VFunc := ⟨0, [.tmp 2],
 .seq (
 .reg [⟨some 2, .mv (.c (.bool false)), none⟩]) (
 .seq (
 .seq (
 .reg [⟨some 3, .mv (.c (.int .i64 0)), none⟩]) (
 .blk 0 (
 .loop [0, 3] (
 .seq (
 .seq (
 .reg [⟨some 5, .mv (.t 3), none⟩,
 ⟨some 6, .mv (.t 0), none⟩,
 ⟨some 7, .len false (.t 6), none⟩,
 ⟨some 8, .bin .lss (.t 5) (.t 7), none⟩]) (
 .cond (.t 8) (
 .skip) (
 .exit 0))) (
 .seq (
 .blk 1 (
 .seq (
 .reg [⟨some 11, .mv (.t 0), none⟩,
 ⟨some 12, .mv (.t 3), none⟩,
 ⟨some 13, .ixs 65 5 (.t 11) (.t 12), none⟩,
 ⟨some 14, .ld (some 5) (.t 13), none⟩,
 ⟨some 4, .alloc [.int .i64 0, .int .i64 0, .int .i64 0, .int .i64 0, .bool false], none⟩,
 ⟨none, .sto 5 (.t 4) (.t 14), none⟩]) (
 .seq (
 .reg [⟨some 15, .fld 0 (.t 4), none⟩,
 ⟨some 16, .ld (some 2) (.t 15), none⟩,
 ⟨some 17, .call 99 [] none [(.t 16)], none⟩,
 ⟨some 18, .not (.t 17), none⟩,
 ⟨some 19, .mv (.t 18), none⟩,
 ⟨some 20, .fld 2 (.t 4), some (19, false)⟩,
 ⟨some 21, .ld none (.t 20), some (19, false)⟩,
 ⟨some 22, .call 100 [] none [(.t 21), (.c (.int .i64 0)), (.c (.int .i64 2))], some (19, false)⟩,
 ⟨some 23, .not (.t 22), some (19, false)⟩,
 ⟨some 24, .pick (.t 19) (.c (.bool true)) (.t 23), none⟩,
 ⟨some 25, .mv (.t 24), none⟩,
 ⟨some 26, .fld 3 (.t 4), some (25, false)⟩,
 ⟨some 27, .ld none (.t 26), some (25, false)⟩,
 ⟨some 28, .call 100 [] none [(.t 27), (.c (.int .i64 1)), (.c (.int .i64 3))], some (25, false)⟩,
 ⟨some 29, .not (.t 28), some (25, false)⟩,
 ⟨some 30, .pick (.t 25) (.c (.bool true)) (.t 29), none⟩,
 ⟨some 31, .mv (.t 30), none⟩,
 ⟨some 32, .mv (.t 3), some (31, false)⟩,
 ⟨some 33, .bin .gtr (.t 32) (.c (.int .i64 0)), some (31, false)⟩,
 ⟨some 34, .mv (.t 33), some (31, false)⟩,
 ⟨some 35, .mv (.t 0), some (34, true)⟩,
 ⟨some 36, .mv (.t 3), some (34, true)⟩,
 ⟨some 37, .bin .sub (.t 36) (.c (.int .i64 1)), some (34, true)⟩,
 ⟨some 38, .ixs 65 5 (.t 35) (.t 37), some (34, true)⟩,
 ⟨some 39, .fld 0 (.t 38), some (34, true)⟩,
 ⟨some 40, .ld (some 2) (.t 39), some (34, true)⟩,
 ⟨some 41, .fld 0 (.t 4), some (34, true)⟩,
 ⟨some 42, .ld (some 2) (.t 41), some (34, true)⟩,
 ⟨some 43, .call 86 [] none [(.t 40), (.t 42)], some (34, true)⟩,
 ⟨some 44, .not (.t 43), some (34, true)⟩,
 ⟨some 45, .pick (.t 34) (.t 44) (.c (.bool false)), some (31, false)⟩,
 ⟨some 46, .pick (.t 31) (.c (.bool true)) (.t 45), none⟩]) (
 .cond (.t 46) (
 .seq (
 .reg [⟨some 2, .mv (.c (.bool false)), none⟩]) (
 .ret)) (
 .skip))))) (
 .reg [⟨some 9, .mv (.t 3), none⟩,
 ⟨some 10, .bin .add (.t 9) (.c (.int .i64 1)), none⟩,
 ⟨some 3, .mv (.t 10), none⟩])))))) (
 .seq (
 .reg [⟨some 47, .mv (.t 0), none⟩,
 ⟨some 48, .len false (.t 47), none⟩,
 ⟨some 49, .bin .leq (.t 48) (.c (.int .i64 20)), none⟩,
 ⟨some 2, .mv (.t 49), none⟩]) (
 .ret)))⟩
/-- loop.example/collabdoc/spec.allowed -/
def v77 : VFunc := ⟨0, [.tmp 4],
 .seq (
 .reg [⟨some 3, .box (.t 1), none⟩,
 ⟨some 4, .mv (.c (.bool false)), none⟩]) (
 .seq (
 .reg [⟨some 8, .mv (.t 0), none⟩,
 ⟨some 9, .fld 0 (.t 3), none⟩,
 ⟨some 10, .ld (some 2) (.t 9), none⟩,
 ⟨some 11, .call 101 [] none [(.t 8), (.t 10)], none⟩,
 ⟨some 7, .mv (.t 11), none⟩,
 ⟨some 12, .extr (.t 7) 0, none⟩,
 ⟨some 13, .extr (.t 7) 1, none⟩,
 ⟨some 5, .mv (.t 12), none⟩,
 ⟨some 6, .mv (.t 13), none⟩]) (
 .seq (
 .reg [⟨some 14, .mv (.t 5), none⟩,
 ⟨some 15, .fld 0 (.t 3), none⟩,
 ⟨some 16, .fld 1 (.t 15), none⟩,
 ⟨some 17, .ld none (.t 16), none⟩,
 ⟨some 18, .ixs 3 1 (.t 14) (.t 17), none⟩,
 ⟨some 19, .ld none (.t 18), none⟩,
 ⟨some 20, .ld (some 12) (.t 3), none⟩,
 ⟨some 21, .call 102 [] none [(.t 20)], none⟩,
 ⟨some 22, .bin .geq (.t 19) (.t 21), none⟩,
 ⟨some 4, .mv (.t 22), none⟩]) (
 .ret)))⟩
/-- loop.example/collabdoc/laws.toGrant -/
def v78 : VFunc := ⟨0, [.cell 2 (some 5)],
 .seq (
 .reg [⟨some 1, .box (.t 0), none⟩,
 ⟨some 2, .alloc [.int .i64 0, .int .i64 0, .int .i64 0, .int .i64 0, .bool false], none⟩]) (
 .seq (
 .reg [⟨some 3, .alloc [.int .i64 0, .int .i64 0, .int .i64 0, .int .i64 0, .bool false], none⟩]) (
 .seq (
 .reg [⟨some 4, .fld 0 (.t 1), none⟩,
 ⟨some 5, .ld (some 2) (.t 4), none⟩,
 ⟨some 6, .call 87 [] none [(.t 5)], none⟩,
 ⟨some 7, .fld 0 (.t 3), none⟩,
 ⟨none, .sto 2 (.t 7) (.t 6), none⟩]) (
 .seq (
 .reg [⟨some 8, .fld 2 (.t 1), none⟩,
 ⟨some 9, .ld none (.t 8), none⟩,
 ⟨some 10, .fld 2 (.t 3), none⟩,
 ⟨none, .sto 1 (.t 10) (.t 9), none⟩]) (
 .seq (
 .reg [⟨some 11, .fld 3 (.t 1), none⟩,
 ⟨some 12, .ld none (.t 11), none⟩,
 ⟨some 13, .fld 3 (.t 3), none⟩,
 ⟨none, .sto 1 (.t 13) (.t 12), none⟩]) (
 .seq (
 .reg [⟨some 14, .fld 4 (.t 1), none⟩,
 ⟨some 15, .ld none (.t 14), none⟩,
 ⟨some 16, .fld 4 (.t 3), none⟩,
 ⟨none, .sto 1 (.t 16) (.t 15), none⟩]) (
 .seq (
 .reg [⟨some 17, .ld (some 5) (.t 3), none⟩,
 ⟨none, .sto 5 (.t 2) (.t 17), none⟩]) (
 .ret)))))))⟩
/-- loop.example/collabdoc/laws.eqGrant -/
def v79 : VFunc := ⟨0, [.tmp 4],
 .seq (
 .reg [⟨some 2, .box (.t 0), none⟩,
 ⟨some 3, .box (.t 1), none⟩,
 ⟨some 4, .mv (.c (.bool false)), none⟩]) (
 .seq (
 .seq (
 .reg [⟨some 5, .fld 0 (.t 2), none⟩,
 ⟨some 6, .ld (some 2) (.t 5), none⟩,
 ⟨some 7, .fld 0 (.t 3), none⟩,
 ⟨some 8, .ld (some 2) (.t 7), none⟩,
 ⟨some 9, .call 88 [] none [(.t 6), (.t 8)], none⟩,
 ⟨some 10, .not (.t 9), none⟩]) (
 .cond (.t 10) (
 .seq (
 .reg [⟨some 4, .mv (.c (.bool false)), none⟩]) (
 .ret)) (
 .skip))) (
 .seq (
 .seq (
 .reg [⟨some 11, .fld 2 (.t 2), none⟩,
 ⟨some 12, .ld none (.t 11), none⟩,
 ⟨some 13, .fld 2 (.t 3), none⟩,
 ⟨some 14, .ld none (.t 13), none⟩,
 ⟨some 15, .bin .neq (.t 12) (.t 14), none⟩]) (
 .cond (.t 15) (
 .seq (
 .reg [⟨some 4, .mv (.c (.bool false)), none⟩]) (
 .ret)) (
 .skip))) (
 .seq (
 .seq (
 .reg [⟨some 16, .fld 3 (.t 2), none⟩,
 ⟨some 17, .ld none (.t 16), none⟩,
 ⟨some 18, .fld 3 (.t 3), none⟩,
 ⟨some 19, .ld none (.t 18), none⟩,
 ⟨some 20, .bin .neq (.t 17) (.t 19), none⟩]) (
 .cond (.t 20) (
 .seq (
 .reg [⟨some 4, .mv (.c (.bool false)), none⟩]) (
 .ret)) (
 .skip))) (
 .seq (
 .seq (
 .reg [⟨some 21, .fld 4 (.t 2), none⟩,
 ⟨some 22, .ld none (.t 21), none⟩,
 ⟨some 23, .fld 4 (.t 3), none⟩,
 ⟨some 24, .ld none (.t 23), none⟩,
 ⟨some 25, .eqb true (.t 22) (.t 24), none⟩]) (
 .cond (.t 25) (
 .seq (
 .reg [⟨some 4, .mv (.c (.bool false)), none⟩]) (
 .ret)) (
 .skip))) (
 .seq (
 .reg [⟨some 4, .mv (.c (.bool true)), none⟩]) (
 .ret))))))⟩
/-- loop.example/collabdoc/impl.ValidStamp -/
def v81 : VFunc := ⟨0, [.tmp 2],
 .seq (
 .reg [⟨some 1, .box (.t 0), none⟩,
 ⟨some 2, .mv (.c (.bool false)), none⟩]) (
 .seq (
 .reg [⟨some 3, .fld 0 (.t 1), none⟩,
 ⟨some 4, .ld none (.t 3), none⟩,
 ⟨some 5, .bin .geq (.t 4) (.c (.int .i64 1)), none⟩,
 ⟨some 6, .mv (.t 5), none⟩,
 ⟨some 7, .fld 0 (.t 1), some (6, true)⟩,
 ⟨some 8, .ld none (.t 7), some (6, true)⟩,
 ⟨some 9, .bin .leq (.t 8) (.c (.int .i64 99)), some (6, true)⟩,
 ⟨some 10, .pick (.t 6) (.t 9) (.c (.bool false)), none⟩,
 ⟨some 11, .mv (.t 10), none⟩,
 ⟨some 12, .fld 1 (.t 1), some (11, true)⟩,
 ⟨some 13, .ld none (.t 12), some (11, true)⟩,
 ⟨some 14, .call 82 [] none [(.t 13)], some (11, true)⟩,
 ⟨some 15, .pick (.t 11) (.t 14) (.c (.bool false)), none⟩,
 ⟨some 2, .mv (.t 15), none⟩]) (
 .ret))⟩
/-- loop.example/collabdoc/impl.isAuthor -/
def v82 : VFunc := ⟨0, [.tmp 2],
 .seq (
 .reg [⟨some 2, .mv (.c (.bool false)), none⟩]) (
 .seq (
 .reg [⟨some 3, .mv (.t 0), none⟩,
 ⟨some 4, .bin .geq (.t 3) (.c (.int .i64 0)), none⟩,
 ⟨some 5, .mv (.t 4), none⟩,
 ⟨some 6, .mv (.t 0), some (5, true)⟩,
 ⟨some 7, .bin .lss (.t 6) (.c (.int .i64 3)), some (5, true)⟩,
 ⟨some 8, .pick (.t 5) (.t 7) (.c (.bool false)), none⟩,
 ⟨some 2, .mv (.t 8), none⟩]) (
 .ret))⟩
/-- loop.example/collabdoc/impl.firstRights -/
def v83 : VFunc := ⟨0, [.cell 0 (some 3)],
 .seq (
 .reg [⟨some 0, .alloc [.int .i64 0, .int .i64 0, .int .i64 0], none⟩]) (
 .seq (
 .reg [⟨some 2, .build [.int .i64 0, .int .i64 0, .int .i64 0] [], none⟩,
 ⟨some 1, .alloc [.int .i64 0, .int .i64 0, .int .i64 0], none⟩,
 ⟨none, .sto 3 (.t 1) (.t 2), none⟩]) (
 .seq (
 .reg [⟨some 3, .ixa 3 1 (.t 1) (.c (.int .i64 0)), none⟩,
 ⟨none, .sto 1 (.t 3) (.c (.int .i64 3)), none⟩]) (
 .seq (
 .reg [⟨some 4, .ld (some 3) (.t 1), none⟩,
 ⟨none, .sto 3 (.t 0) (.t 4), none⟩]) (
 .ret))))⟩
/-- (*loop.example/collabdoc/impl.rightList).take -/
def v84 : VFunc := ⟨1, [.tmp 4],
 .seq (
 .reg [⟨some 3, .box (.t 1), none⟩,
 ⟨some 4, .mv (.c (.bool false)), none⟩]) (
 .seq (
 .seq (
 .reg [⟨some 5, .mv (.t 0), none⟩,
 ⟨some 6, .fld 0 (.t 3), none⟩,
 ⟨some 7, .fld 1 (.t 6), none⟩,
 ⟨some 8, .ld none (.t 7), none⟩,
 ⟨some 9, .nilc (.t 5), none⟩,
 ⟨some 10, .ixa 3 1 (.t 9) (.t 8), none⟩,
 ⟨some 11, .ld none (.t 10), none⟩,
 ⟨some 12, .bin .neq (.t 11) (.c (.int .i64 3)), none⟩,
 ⟨some 13, .mv (.t 12), none⟩,
 ⟨some 14, .fld 2 (.t 3), some (13, false)⟩,
 ⟨some 15, .ld none (.t 14), some (13, false)⟩,
 ⟨some 16, .bin .eql (.t 15) (.c (.int .i64 0)), some (13, false)⟩,
 ⟨some 17, .pick (.t 13) (.c (.bool true)) (.t 16), none⟩]) (
 .cond (.t 17) (
 .seq (
 .reg [⟨some 4, .mv (.c (.bool false)), none⟩]) (
 .ret)) (
 .skip))) (
 .seq (
 .seq (
 .reg [⟨some 18, .fld 4 (.t 3), none⟩,
 ⟨some 19, .ld none (.t 18), none⟩]) (
 .cond (.t 19) (
 .reg [⟨some 20, .mv (.t 0), none⟩,
 ⟨some 21, .fld 2 (.t 3), none⟩,
 ⟨some 22, .ld none (.t 21), none⟩,
 ⟨some 23, .mv (.t 0), none⟩,
 ⟨some 24, .fld 2 (.t 3), none⟩,
 ⟨some 25, .ld none (.t 24), none⟩,
 ⟨some 26, .nilc (.t 23), none⟩,
 ⟨some 27, .ixa 3 1 (.t 26) (.t 25), none⟩,
 ⟨some 28, .ld none (.t 27), none⟩,
 ⟨some 29, .fld 3 (.t 3), none⟩,
 ⟨some 30, .ld none (.t 29), none⟩,
 ⟨some 31, .mx (.t 28) (.t 30), none⟩,
 ⟨some 32, .nilc (.t 20), none⟩,
 ⟨some 33, .ixa 3 1 (.t 32) (.t 22), none⟩,
 ⟨none, .sto 1 (.t 33) (.t 31), none⟩]) (
 .reg [⟨some 34, .mv (.t 0), none⟩,
 ⟨some 35, .fld 2 (.t 3), none⟩,
 ⟨some 36, .ld none (.t 35), none⟩,
 ⟨some 37, .mv (.t 0), none⟩,
 ⟨some 38, .fld 2 (.t 3), none⟩,
 ⟨some 39, .ld none (.t 38), none⟩,
 ⟨some 40, .nilc (.t 37), none⟩,
 ⟨some 41, .ixa 3 1 (.t 40) (.t 39), none⟩,
 ⟨some 42, .ld none (.t 41), none⟩,
 ⟨some 43, .fld 3 (.t 3), none⟩,
 ⟨some 44, .ld none (.t 43), none⟩,
 ⟨some 45, .bin .sub (.t 44) (.c (.int .i64 1)), none⟩,
 ⟨some 46, .mn (.t 42) (.t 45), none⟩,
 ⟨some 47, .nilc (.t 34), none⟩,
 ⟨some 48, .ixa 3 1 (.t 47) (.t 36), none⟩,
 ⟨none, .sto 1 (.t 48) (.t 46), none⟩]))) (
 .seq (
 .reg [⟨some 4, .mv (.c (.bool true)), none⟩]) (
 .ret))))⟩
/-- loop.example/collabdoc/spec.validOp -/
def v85 : VFunc := ⟨0, [.tmp 2],
 .seq (
 .reg [⟨some 1, .box (.t 0), none⟩,
 ⟨some 2, .mv (.c (.bool false)), none⟩]) (
 .seq (
 .seq (
 .reg [⟨some 4, .fld 0 (.t 1), none⟩,
 ⟨some 5, .ld (some 2) (.t 4), none⟩,
 ⟨some 6, .call 104 [] none [(.t 5)], none⟩,
 ⟨some 7, .not (.t 6), none⟩]) (
 .cond (.t 7) (
 .seq (
 .reg [⟨some 2, .mv (.c (.bool false)), none⟩]) (
 .ret)) (
 .skip))) (
 .seq (
 .reg [⟨some 8, .fld 11 (.t 1), none⟩,
 ⟨some 9, .ld none (.t 8), none⟩,
 ⟨some 10, .bin .eql (.t 9) (.c (.str [])), none⟩,
 ⟨some 3, .mv (.t 10), none⟩]) (
 .seq (
 .seq (
 .reg [⟨some 11, .fld 2 (.t 1), none⟩,
 ⟨some 12, .ld none (.t 11), none⟩]) (
 .blk 0 (
 .seq (
 .reg [⟨some 14, .bin .eql (.t 12) (.c (.int .i64 1)), none⟩,
 ⟨some 13, .mv (.t 14), none⟩]) (
 .cond (.t 13) (
 .seq (
 .reg [⟨some 15, .ld (some 12) (.t 1), none⟩,
 ⟨some 16, .fld 3 (.t 1), none⟩,
 ⟨some 17, .ld (some 2) (.t 16), none⟩,
 ⟨some 18, .call 105 [] none [(.t 15), (.t 17), (.c (.bool true))], none⟩,
 ⟨some 19, .mv (.t 18), none⟩,
 ⟨some 20, .ld (some 12) (.t 1), some (19, true)⟩,
 ⟨some 21, .fld 5 (.t 1), some (19, true)⟩,
 ⟨some 22, .ld (some 2) (.t 21), some (19, true)⟩,
 ⟨some 23, .call 105 [] none [(.t 20), (.t 22), (.c (.bool true))], some (19, true)⟩,
 ⟨some 24, .pick (.t 19) (.t 23) (.c (.bool false)), none⟩,
 ⟨some 25, .mv (.t 24), none⟩,
 ⟨some 26, .fld 7 (.t 1), some (25, true)⟩,
 ⟨some 27, .ld (some 2) (.t 26), some (25, true)⟩,
 ⟨some 28, .call 106 [] none [(.t 27)], some (25, true)⟩,
 ⟨some 29, .pick (.t 25) (.t 28) (.c (.bool false)), none⟩,
 ⟨some 30, .mv (.t 29), none⟩,
 ⟨some 31, .fld 9 (.t 1), some (30, true)⟩,
 ⟨some 32, .ld none (.t 31), some (30, true)⟩,
 ⟨some 33, .call 100 [] none [(.t 32), (.c (.int .i64 32)), (.c (.int .i64 126))], some (30, true)⟩,
 ⟨some 34, .pick (.t 30) (.t 33) (.c (.bool false)), none⟩,
 ⟨some 35, .mv (.t 34), none⟩,
 ⟨some 36, .fld 10 (.t 1), some (35, true)⟩,
 ⟨some 37, .ld none (.t 36), some (35, true)⟩,
 ⟨some 38, .not (.t 37), some (35, true)⟩,
 ⟨some 39, .pick (.t 35) (.t 38) (.c (.bool false)), none⟩,
 ⟨some 40, .mv (.t 39), none⟩,
 ⟨some 41, .mv (.t 3), some (40, true)⟩,
 ⟨some 42, .pick (.t 40) (.t 41) (.c (.bool false)), none⟩,
 ⟨some 2, .mv (.t 42), none⟩]) (
 .ret)) (
 .seq (
 .reg [⟨some 44, .bin .eql (.t 12) (.c (.int .i64 2)), none⟩,
 ⟨some 43, .mv (.t 44), none⟩]) (
 .cond (.t 43) (
 .seq (
 .reg [⟨some 45, .ld (some 12) (.t 1), none⟩,
 ⟨some 46, .fld 3 (.t 1), none⟩,
 ⟨some 47, .ld (some 2) (.t 46), none⟩,
 ⟨some 48, .call 105 [] none [(.t 45), (.t 47), (.c (.bool false))], none⟩,
 ⟨some 49, .mv (.t 48), none⟩,
 ⟨some 50, .fld 5 (.t 1), some (49, true)⟩,
 ⟨some 51, .ld (some 2) (.t 50), some (49, true)⟩,
 ⟨some 52, .call 106 [] none [(.t 51)], some (49, true)⟩,
 ⟨some 53, .pick (.t 49) (.t 52) (.c (.bool false)), none⟩,
 ⟨some 54, .mv (.t 53), none⟩,
 ⟨some 55, .fld 7 (.t 1), some (54, true)⟩,
 ⟨some 56, .ld (some 2) (.t 55), some (54, true)⟩,
 ⟨some 57, .call 106 [] none [(.t 56)], some (54, true)⟩,
 ⟨some 58, .pick (.t 54) (.t 57) (.c (.bool false)), none⟩,
 ⟨some 59, .mv (.t 58), none⟩,
 ⟨some 60, .fld 9 (.t 1), some (59, true)⟩,
 ⟨some 61, .ld none (.t 60), some (59, true)⟩,
 ⟨some 62, .bin .eql (.t 61) (.c (.int .i64 0)), some (59, true)⟩,
 ⟨some 63, .pick (.t 59) (.t 62) (.c (.bool false)), none⟩,
 ⟨some 64, .mv (.t 63), none⟩,
 ⟨some 65, .fld 10 (.t 1), some (64, true)⟩,
 ⟨some 66, .ld none (.t 65), some (64, true)⟩,
 ⟨some 67, .not (.t 66), some (64, true)⟩,
 ⟨some 68, .pick (.t 64) (.t 67) (.c (.bool false)), none⟩,
 ⟨some 69, .mv (.t 68), none⟩,
 ⟨some 70, .mv (.t 3), some (69, true)⟩,
 ⟨some 71, .pick (.t 69) (.t 70) (.c (.bool false)), none⟩,
 ⟨some 2, .mv (.t 71), none⟩]) (
 .ret)) (
 .seq (
 .reg [⟨some 73, .bin .eql (.t 12) (.c (.int .i64 3)), none⟩,
 ⟨some 72, .mv (.t 73), none⟩]) (
 .cond (.t 72) (
 .seq (
 .reg [⟨some 74, .ld (some 12) (.t 1), none⟩,
 ⟨some 75, .fld 3 (.t 1), none⟩,
 ⟨some 76, .ld (some 2) (.t 75), none⟩,
 ⟨some 77, .call 105 [] none [(.t 74), (.t 76), (.c (.bool false))], none⟩,
 ⟨some 78, .mv (.t 77), none⟩,
 ⟨some 79, .ld (some 12) (.t 1), some (78, true)⟩,
 ⟨some 80, .fld 5 (.t 1), some (78, true)⟩,
 ⟨some 81, .ld (some 2) (.t 80), some (78, true)⟩,
 ⟨some 82, .call 105 [] none [(.t 79), (.t 81), (.c (.bool false))], some (78, true)⟩,
 ⟨some 83, .pick (.t 78) (.t 82) (.c (.bool false)), none⟩,
 ⟨some 84, .mv (.t 83), none⟩,
 ⟨some 85, .fld 7 (.t 1), some (84, true)⟩,
 ⟨some 86, .ld (some 2) (.t 85), some (84, true)⟩,
 ⟨some 87, .call 106 [] none [(.t 86)], some (84, true)⟩,
 ⟨some 88, .pick (.t 84) (.t 87) (.c (.bool false)), none⟩,
 ⟨some 89, .mv (.t 88), none⟩,
 ⟨some 90, .fld 9 (.t 1), some (89, true)⟩,
 ⟨some 91, .ld none (.t 90), some (89, true)⟩,
 ⟨some 92, .call 100 [] none [(.t 91), (.c (.int .i64 1)), (.c (.int .i64 3))], some (89, true)⟩,
 ⟨some 93, .pick (.t 89) (.t 92) (.c (.bool false)), none⟩,
 ⟨some 94, .mv (.t 93), none⟩,
 ⟨some 95, .mv (.t 3), some (94, true)⟩,
 ⟨some 96, .pick (.t 94) (.t 95) (.c (.bool false)), none⟩,
 ⟨some 2, .mv (.t 96), none⟩]) (
 .ret)) (
 .seq (
 .reg [⟨some 98, .bin .eql (.t 12) (.c (.int .i64 4)), none⟩,
 ⟨some 97, .mv (.t 98), none⟩]) (
 .cond (.t 97) (
 .seq (
 .reg [⟨some 99, .ld (some 12) (.t 1), none⟩,
 ⟨some 100, .fld 3 (.t 1), none⟩,
 ⟨some 101, .ld (some 2) (.t 100), none⟩,
 ⟨some 102, .call 105 [] none [(.t 99), (.t 101), (.c (.bool true))], none⟩,
 ⟨some 103, .mv (.t 102), none⟩,
 ⟨some 104, .ld (some 12) (.t 1), some (103, true)⟩,
 ⟨some 105, .fld 5 (.t 1), some (103, true)⟩,
 ⟨some 106, .ld (some 2) (.t 105), some (103, true)⟩,
 ⟨some 107, .call 105 [] none [(.t 104), (.t 106), (.c (.bool true))], some (103, true)⟩,
 ⟨some 108, .pick (.t 103) (.t 107) (.c (.bool false)), none⟩,
 ⟨some 109, .mv (.t 108), none⟩,
 ⟨some 110, .fld 7 (.t 1), some (109, true)⟩,
 ⟨some 111, .ld (some 2) (.t 110), some (109, true)⟩,
 ⟨some 112, .call 106 [] none [(.t 111)], some (109, true)⟩,
 ⟨some 113, .pick (.t 109) (.t 112) (.c (.bool false)), none⟩,
 ⟨some 114, .mv (.t 113), none⟩,
 ⟨some 115, .fld 9 (.t 1), some (114, true)⟩,
 ⟨some 116, .ld none (.t 115), some (114, true)⟩,
 ⟨some 117, .call 100 [] none [(.t 116), (.c (.int .i64 1)), (.c (.int .i64 4))], some (114, true)⟩,
 ⟨some 118, .pick (.t 114) (.t 117) (.c (.bool false)), none⟩,
 ⟨some 119, .mv (.t 118), none⟩,
 ⟨some 120, .fld 10 (.t 1), some (119, true)⟩,
 ⟨some 121, .ld none (.t 120), some (119, true)⟩,
 ⟨some 122, .not (.t 121), some (119, true)⟩,
 ⟨some 123, .pick (.t 119) (.t 122) (.c (.bool false)), none⟩,
 ⟨some 124, .mv (.t 123), none⟩,
 ⟨some 125, .mv (.t 3), some (124, true)⟩,
 ⟨some 126, .pick (.t 124) (.t 125) (.c (.bool false)), none⟩,
 ⟨some 2, .mv (.t 126), none⟩]) (
 .ret)) (
 .seq (
 .reg [⟨some 128, .bin .eql (.t 12) (.c (.int .i64 5)), none⟩,
 ⟨some 127, .mv (.t 128), none⟩]) (
 .cond (.t 127) (
 .seq (
 .reg [⟨some 129, .ld (some 12) (.t 1), none⟩,
 ⟨some 130, .fld 3 (.t 1), none⟩,
 ⟨some 131, .ld (some 2) (.t 130), none⟩,
 ⟨some 132, .call 105 [] none [(.t 129), (.t 131), (.c (.bool false))], none⟩,
 ⟨some 133, .mv (.t 132), none⟩,
 ⟨some 134, .ld (some 12) (.t 1), some (133, true)⟩,
 ⟨some 135, .fld 5 (.t 1), some (133, true)⟩,
 ⟨some 136, .ld (some 2) (.t 135), some (133, true)⟩,
 ⟨some 137, .call 105 [] none [(.t 134), (.t 136), (.c (.bool true))], some (133, true)⟩,
 ⟨some 138, .pick (.t 133) (.t 137) (.c (.bool false)), none⟩,
 ⟨some 139, .mv (.t 138), none⟩,
 ⟨some 140, .ld (some 12) (.t 1), some (139, true)⟩,
 ⟨some 141, .fld 7 (.t 1), some (139, true)⟩,
 ⟨some 142, .ld (some 2) (.t 141), some (139, true)⟩,
 ⟨some 143, .call 105 [] none [(.t 140), (.t 142), (.c (.bool true))], some (139, true)⟩,
 ⟨some 144, .pick (.t 139) (.t 143) (.c (.bool false)), none⟩,
 ⟨some 145, .mv (.t 144), none⟩,
 ⟨some 146, .fld 9 (.t 1), some (145, true)⟩,
 ⟨some 147, .ld none (.t 146), some (145, true)⟩,
 ⟨some 148, .bin .eql (.t 147) (.c (.int .i64 0)), some (145, true)⟩,
 ⟨some 149, .pick (.t 145) (.t 148) (.c (.bool false)), none⟩,
 ⟨some 150, .mv (.t 149), none⟩,
 ⟨some 151, .fld 10 (.t 1), some (150, true)⟩,
 ⟨some 152, .ld none (.t 151), some (150, true)⟩,
 ⟨some 153, .not (.t 152), some (150, true)⟩,
 ⟨some 154, .pick (.t 150) (.t 153) (.c (.bool false)), none⟩,
 ⟨some 155, .mv (.t 154), none⟩,
 ⟨some 156, .mv (.t 3), some (155, true)⟩,
 ⟨some 157, .pick (.t 155) (.t 156) (.c (.bool false)), none⟩,
 ⟨some 2, .mv (.t 157), none⟩]) (
 .ret)) (
 .seq (
 .reg [⟨some 159, .bin .eql (.t 12) (.c (.int .i64 6)), none⟩,
 ⟨some 158, .mv (.t 159), none⟩]) (
 .cond (.t 158) (
 .seq (
 .reg [⟨some 160, .ld (some 12) (.t 1), none⟩,
 ⟨some 161, .fld 3 (.t 1), none⟩,
 ⟨some 162, .ld (some 2) (.t 161), none⟩,
 ⟨some 163, .call 105 [] none [(.t 160), (.t 162), (.c (.bool false))], none⟩,
 ⟨some 164, .mv (.t 163), none⟩,
 ⟨some 165, .fld 5 (.t 1), some (164, true)⟩,
 ⟨some 166, .ld (some 2) (.t 165), some (164, true)⟩,
 ⟨some 167, .call 106 [] none [(.t 166)], some (164, true)⟩,
 ⟨some 168, .pick (.t 164) (.t 167) (.c (.bool false)), none⟩,
 ⟨some 169, .mv (.t 168), none⟩,
 ⟨some 170, .fld 7 (.t 1), some (169, true)⟩,
 ⟨some 171, .ld (some 2) (.t 170), some (169, true)⟩,
 ⟨some 172, .call 106 [] none [(.t 171)], some (169, true)⟩,
 ⟨some 173, .pick (.t 169) (.t 172) (.c (.bool false)), none⟩,
 ⟨some 174, .mv (.t 173), none⟩,
 ⟨some 175, .fld 9 (.t 1), some (174, true)⟩,
 ⟨some 176, .ld none (.t 175), some (174, true)⟩,
 ⟨some 177, .call 100 [] none [(.t 176), (.c (.int .i64 1)), (.c (.int .i64 4))], some (174, true)⟩,
 ⟨some 178, .pick (.t 174) (.t 177) (.c (.bool false)), none⟩,
 ⟨some 179, .mv (.t 178), none⟩,
 ⟨some 180, .fld 10 (.t 1), some (179, true)⟩,
 ⟨some 181, .ld none (.t 180), some (179, true)⟩,
 ⟨some 182, .not (.t 181), some (179, true)⟩,
 ⟨some 183, .pick (.t 179) (.t 182) (.c (.bool false)), none⟩,
 ⟨some 184, .mv (.t 183), none⟩,
 ⟨some 185, .mv (.t 3), some (184, true)⟩,
 ⟨some 186, .pick (.t 184) (.t 185) (.c (.bool false)), none⟩,
 ⟨some 2, .mv (.t 186), none⟩]) (
 .ret)) (
 .seq (
 .reg [⟨some 188, .bin .eql (.t 12) (.c (.int .i64 7)), none⟩,
 ⟨some 187, .mv (.t 188), none⟩]) (
 .cond (.t 187) (
 .seq (
 .reg [⟨some 189, .ld (some 12) (.t 1), none⟩,
 ⟨some 190, .fld 3 (.t 1), none⟩,
 ⟨some 191, .ld (some 2) (.t 190), none⟩,
 ⟨some 192, .call 105 [] none [(.t 189), (.t 191), (.c (.bool false))], none⟩,
 ⟨some 193, .mv (.t 192), none⟩,
 ⟨some 194, .fld 5 (.t 1), some (193, true)⟩,
 ⟨some 195, .ld (some 2) (.t 194), some (193, true)⟩,
 ⟨some 196, .call 106 [] none [(.t 195)], some (193, true)⟩,
 ⟨some 197, .pick (.t 193) (.t 196) (.c (.bool false)), none⟩,
 ⟨some 198, .mv (.t 197), none⟩,
 ⟨some 199, .fld 7 (.t 1), some (198, true)⟩,
 ⟨some 200, .ld (some 2) (.t 199), some (198, true)⟩,
 ⟨some 201, .call 106 [] none [(.t 200)], some (198, true)⟩,
 ⟨some 202, .pick (.t 198) (.t 201) (.c (.bool false)), none⟩,
 ⟨some 203, .mv (.t 202), none⟩,
 ⟨some 204, .fld 9 (.t 1), some (203, true)⟩,
 ⟨some 205, .ld none (.t 204), some (203, true)⟩,
 ⟨some 206, .bin .eql (.t 205) (.c (.int .i64 0)), some (203, true)⟩,
 ⟨some 207, .pick (.t 203) (.t 206) (.c (.bool false)), none⟩,
 ⟨some 208, .mv (.t 207), none⟩,
 ⟨some 209, .fld 10 (.t 1), some (208, true)⟩,
 ⟨some 210, .ld none (.t 209), some (208, true)⟩,
 ⟨some 211, .not (.t 210), some (208, true)⟩,
 ⟨some 212, .pick (.t 208) (.t 211) (.c (.bool false)), none⟩,
 ⟨some 213, .mv (.t 212), none⟩,
 ⟨some 214, .mv (.t 3), some (213, true)⟩,
 ⟨some 215, .pick (.t 213) (.t 214) (.c (.bool false)), none⟩,
 ⟨some 2, .mv (.t 215), none⟩]) (
 .ret)) (
 .seq (
 .reg [⟨some 217, .bin .eql (.t 12) (.c (.int .i64 8)), none⟩,
 ⟨some 216, .mv (.t 217), none⟩]) (
 .cond (.t 216) (
 .seq (
 .reg [⟨some 218, .ld (some 12) (.t 1), none⟩,
 ⟨some 219, .fld 3 (.t 1), none⟩,
 ⟨some 220, .ld (some 2) (.t 219), none⟩,
 ⟨some 221, .call 105 [] none [(.t 218), (.t 220), (.c (.bool false))], none⟩,
 ⟨some 222, .mv (.t 221), none⟩,
 ⟨some 223, .ld (some 12) (.t 1), some (222, true)⟩,
 ⟨some 224, .fld 5 (.t 1), some (222, true)⟩,
 ⟨some 225, .ld (some 2) (.t 224), some (222, true)⟩,
 ⟨some 226, .call 105 [] none [(.t 223), (.t 225), (.c (.bool false))], some (222, true)⟩,
 ⟨some 227, .pick (.t 222) (.t 226) (.c (.bool false)), none⟩,
 ⟨some 228, .mv (.t 227), none⟩,
 ⟨some 229, .fld 7 (.t 1), some (228, true)⟩,
 ⟨some 230, .ld (some 2) (.t 229), some (228, true)⟩,
 ⟨some 231, .call 106 [] none [(.t 230)], some (228, true)⟩,
 ⟨some 232, .pick (.t 228) (.t 231) (.c (.bool false)), none⟩,
 ⟨some 233, .mv (.t 232), none⟩,
 ⟨some 234, .fld 9 (.t 1), some (233, true)⟩,
 ⟨some 235, .ld none (.t 234), some (233, true)⟩,
 ⟨some 236, .bin .eql (.t 235) (.c (.int .i64 0)), some (233, true)⟩,
 ⟨some 237, .pick (.t 233) (.t 236) (.c (.bool false)), none⟩,
 ⟨some 238, .mv (.t 237), none⟩,
 ⟨some 239, .fld 10 (.t 1), some (238, true)⟩,
 ⟨some 240, .ld none (.t 239), some (238, true)⟩,
 ⟨some 241, .not (.t 240), some (238, true)⟩,
 ⟨some 242, .pick (.t 238) (.t 241) (.c (.bool false)), none⟩,
 ⟨some 243, .mv (.t 242), none⟩,
 ⟨some 244, .fld 11 (.t 1), some (243, true)⟩,
 ⟨some 245, .ld none (.t 244), some (243, true)⟩,
 ⟨some 246, .call 107 [] none [(.t 245)], some (243, true)⟩,
 ⟨some 247, .pick (.t 243) (.t 246) (.c (.bool false)), none⟩,
 ⟨some 2, .mv (.t 247), none⟩]) (
 .ret)) (
 .seq (
 .reg [⟨some 249, .bin .eql (.t 12) (.c (.int .i64 9)), none⟩,
 ⟨some 248, .mv (.t 249), none⟩]) (
 .cond (.t 248) (
 .seq (
 .reg [⟨some 250, .ld (some 12) (.t 1), none⟩,
 ⟨some 251, .fld 3 (.t 1), none⟩,
 ⟨some 252, .ld (some 2) (.t 251), none⟩,
 ⟨some 253, .call 105 [] none [(.t 250), (.t 252), (.c (.bool false))], none⟩,
 ⟨some 254, .mv (.t 253), none⟩,
 ⟨some 255, .fld 5 (.t 1), some (254, true)⟩,
 ⟨some 256, .ld (some 2) (.t 255), some (254, true)⟩,
 ⟨some 257, .call 106 [] none [(.t 256)], some (254, true)⟩,
 ⟨some 258, .pick (.t 254) (.t 257) (.c (.bool false)), none⟩,
 ⟨some 259, .mv (.t 258), none⟩,
 ⟨some 260, .fld 7 (.t 1), some (259, true)⟩,
 ⟨some 261, .ld (some 2) (.t 260), some (259, true)⟩,
 ⟨some 262, .call 106 [] none [(.t 261)], some (259, true)⟩,
 ⟨some 263, .pick (.t 259) (.t 262) (.c (.bool false)), none⟩,
 ⟨some 264, .mv (.t 263), none⟩,
 ⟨some 265, .fld 9 (.t 1), some (264, true)⟩,
 ⟨some 266, .ld none (.t 265), some (264, true)⟩,
 ⟨some 267, .bin .eql (.t 266) (.c (.int .i64 0)), some (264, true)⟩,
 ⟨some 268, .pick (.t 264) (.t 267) (.c (.bool false)), none⟩,
 ⟨some 269, .mv (.t 268), none⟩,
 ⟨some 270, .fld 10 (.t 1), some (269, true)⟩,
 ⟨some 271, .ld none (.t 270), some (269, true)⟩,
 ⟨some 272, .not (.t 271), some (269, true)⟩,
 ⟨some 273, .pick (.t 269) (.t 272) (.c (.bool false)), none⟩,
 ⟨some 274, .mv (.t 273), none⟩,
 ⟨some 275, .fld 11 (.t 1), some (274, true)⟩,
 ⟨some 276, .ld none (.t 275), some (274, true)⟩,
 ⟨some 277, .call 107 [] none [(.t 276)], some (274, true)⟩,
 ⟨some 278, .pick (.t 274) (.t 277) (.c (.bool false)), none⟩,
 ⟨some 2, .mv (.t 278), none⟩]) (
 .ret)) (
 .seq (
 .reg [⟨some 280, .bin .eql (.t 12) (.c (.int .i64 10)), none⟩,
 ⟨some 279, .mv (.t 280), none⟩]) (
 .cond (.t 279) (
 .seq (
 .reg [⟨some 281, .ld (some 12) (.t 1), none⟩,
 ⟨some 282, .fld 3 (.t 1), none⟩,
 ⟨some 283, .ld (some 2) (.t 282), none⟩,
 ⟨some 284, .call 105 [] none [(.t 281), (.t 283), (.c (.bool false))], none⟩,
 ⟨some 285, .mv (.t 284), none⟩,
 ⟨some 286, .fld 5 (.t 1), some (285, true)⟩,
 ⟨some 287, .ld (some 2) (.t 286), some (285, true)⟩,
 ⟨some 288, .call 106 [] none [(.t 287)], some (285, true)⟩,
 ⟨some 289, .pick (.t 285) (.t 288) (.c (.bool false)), none⟩,
 ⟨some 290, .mv (.t 289), none⟩,
 ⟨some 291, .fld 7 (.t 1), some (290, true)⟩,
 ⟨some 292, .ld (some 2) (.t 291), some (290, true)⟩,
 ⟨some 293, .call 106 [] none [(.t 292)], some (290, true)⟩,
 ⟨some 294, .pick (.t 290) (.t 293) (.c (.bool false)), none⟩,
 ⟨some 295, .mv (.t 294), none⟩,
 ⟨some 296, .fld 9 (.t 1), some (295, true)⟩,
 ⟨some 297, .ld none (.t 296), some (295, true)⟩,
 ⟨some 298, .bin .eql (.t 297) (.c (.int .i64 0)), some (295, true)⟩,
 ⟨some 299, .pick (.t 295) (.t 298) (.c (.bool false)), none⟩,
 ⟨some 300, .mv (.t 299), none⟩,
 ⟨some 301, .mv (.t 3), some (300, true)⟩,
 ⟨some 302, .pick (.t 300) (.t 301) (.c (.bool false)), none⟩,
 ⟨some 2, .mv (.t 302), none⟩]) (
 .ret)) (
 .skip))))))))))))))))))))))) (
 .seq (
 .reg [⟨some 2, .mv (.c (.bool false)), none⟩]) (
 .ret)))))⟩
/-- loop.example/collabdoc/spec.stampLess -/
def v86 : VFunc := ⟨0, [.tmp 4],
 .seq (
 .reg [⟨some 2, .box (.t 0), none⟩,
 ⟨some 3, .box (.t 1), none⟩,
 ⟨some 4, .mv (.c (.bool false)), none⟩]) (
 .seq (
 .reg [⟨some 5, .fld 0 (.t 2), none⟩,
 ⟨some 6, .ld none (.t 5), none⟩,
 ⟨some 7, .fld 0 (.t 3), none⟩,
 ⟨some 8, .ld none (.t 7), none⟩,
 ⟨some 9, .bin .lss (.t 6) (.t 8), none⟩,
 ⟨some 10, .mv (.t 9), none⟩,
 ⟨some 11, .fld 0 (.t 2), some (10, false)⟩,
 ⟨some 12, .ld none (.t 11), some (10, false)⟩,
 ⟨some 13, .fld 0 (.t 3), some (10, false)⟩,
 ⟨some 14, .ld none (.t 13), some (10, false)⟩,
 ⟨some 15, .bin .eql (.t 12) (.t 14), some (10, false)⟩,
 ⟨some 16, .mv (.t 15), some (10, false)⟩,
 ⟨some 17, .fld 1 (.t 2), some (16, true)⟩,
 ⟨some 18, .ld none (.t 17), some (16, true)⟩,
 ⟨some 19, .fld 1 (.t 3), some (16, true)⟩,
 ⟨some 20, .ld none (.t 19), some (16, true)⟩,
 ⟨some 21, .bin .lss (.t 18) (.t 20), some (16, true)⟩,
 ⟨some 22, .pick (.t 16) (.t 21) (.c (.bool false)), some (10, false)⟩,
 ⟨some 23, .pick (.t 10) (.c (.bool true)) (.t 22), none⟩,
 ⟨some 4, .mv (.t 23), none⟩]) (
 .ret))⟩
/-- loop.example/collabdoc/laws.toStamp -/
def v87 : VFunc := ⟨0, [.cell 2 (some 2)],
 .seq (
 .reg [⟨some 1, .box (.t 0), none⟩,
 ⟨some 2, .alloc [.int .i64 0, .int .i64 0], none⟩]) (
 .seq (
 .reg [⟨some 3, .alloc [.int .i64 0, .int .i64 0], none⟩]) (
 .seq (
 .reg [⟨some 4, .fld 0 (.t 1), none⟩,
 ⟨some 5, .ld none (.t 4), none⟩,
 ⟨some 6, .fld 0 (.t 3), none⟩,
 ⟨none, .sto 1 (.t 6) (.t 5), none⟩]) (
 .seq (
 .reg [⟨some 7, .fld 1 (.t 1), none⟩,
 ⟨some 8, .ld none (.t 7), none⟩,
 ⟨some 9, .fld 1 (.t 3), none⟩,
 ⟨none, .sto 1 (.t 9) (.t 8), none⟩]) (
 .seq (
 .reg [⟨some 10, .ld (some 2) (.t 3), none⟩,
 ⟨none, .sto 2 (.t 2) (.t 10), none⟩]) (
 .ret)))))⟩
/-- loop.example/collabdoc/laws.eqStamp -/
def v88 : VFunc := ⟨0, [.tmp 4],
 .seq (
 .reg [⟨some 2, .box (.t 0), none⟩,
 ⟨some 3, .box (.t 1), none⟩,
 ⟨some 4, .mv (.c (.bool false)), none⟩]) (
 .seq (
 .seq (
 .reg [⟨some 5, .fld 0 (.t 2), none⟩,
 ⟨some 6, .ld none (.t 5), none⟩,
 ⟨some 7, .fld 0 (.t 3), none⟩,
 ⟨some 8, .ld none (.t 7), none⟩,
 ⟨some 9, .bin .neq (.t 6) (.t 8), none⟩]) (
 .cond (.t 9) (
 .seq (
 .reg [⟨some 4, .mv (.c (.bool false)), none⟩]) (
 .ret)) (
 .skip))) (
 .seq (
 .seq (
 .reg [⟨some 10, .fld 1 (.t 2), none⟩,
 ⟨some 11, .ld none (.t 10), none⟩,
 ⟨some 12, .fld 1 (.t 3), none⟩,
 ⟨some 13, .ld none (.t 12), none⟩,
 ⟨some 14, .bin .neq (.t 11) (.t 13), none⟩]) (
 .cond (.t 14) (
 .seq (
 .reg [⟨some 4, .mv (.c (.bool false)), none⟩]) (
 .ret)) (
 .skip))) (
 .seq (
 .reg [⟨some 4, .mv (.c (.bool true)), none⟩]) (
 .ret))))⟩
/-- loop.example/collabdoc/impl.ValidOp$1 -/
def v94 : VFunc := ⟨0, [.tmp 3],
 .seq (
 .reg [⟨some 2, .box (.t 0), none⟩,
 ⟨some 3, .mv (.c (.bool false)), none⟩]) (
 .seq (
 .reg [⟨some 4, .ld (some 2) (.t 2), none⟩,
 ⟨some 5, .call 81 [] none [(.t 4)], none⟩,
 ⟨some 6, .mv (.t 5), none⟩,
 ⟨some 7, .ld (some 2) (.t 2), some (6, true)⟩,
 ⟨some 8, .fld 0 (.t 1), some (6, true)⟩,
 ⟨some 9, .ld (some 2) (.t 8), some (6, true)⟩,
 ⟨some 10, .call 37 [] none [(.t 7), (.t 9)], some (6, true)⟩,
 ⟨some 11, .pick (.t 6) (.t 10) (.c (.bool false)), none⟩,
 ⟨some 3, .mv (.t 11), none⟩]) (
 .ret))⟩
/-- loop.example/collabdoc/impl.ValidOp$2 -/
def v95 : VFunc := ⟨0, [.tmp 3],
 .seq (
 .reg [⟨some 2, .box (.t 0), none⟩,
 ⟨some 3, .mv (.c (.bool false)), none⟩]) (
 .seq (
 .reg [⟨some 4, .ld (some 2) (.t 2), none⟩,
 ⟨some 5, .build [.int .i64 0, .int .i64 0] [], none⟩,
 ⟨some 6, .eqs [.i .i64, .i .i64] false (.t 4) (.t 5), none⟩,
 ⟨some 7, .mv (.t 6), none⟩,
 ⟨some 8, .ld none (.t 1), some (7, false)⟩,
 ⟨some 9, .ld (some 2) (.t 2), some (7, false)⟩,
 ⟨some 10, .callc (.t 8) [(.t 9)], some (7, false)⟩,
 ⟨some 11, .pick (.t 7) (.c (.bool true)) (.t 10), none⟩,
 ⟨some 3, .mv (.t 11), none⟩]) (
 .ret))⟩
/-- loop.example/collabdoc/impl.isWord -/
def v96 : VFunc := ⟨0, [.tmp 2],
 .seq (
 .reg [⟨some 2, .mv (.c (.bool false)), none⟩]) (
 .seq (
 .seq (
 .reg [⟨some 3, .mv (.c (.int .i64 0)), none⟩]) (
 .blk 0 (
 .loop [0, 3] (
 .seq (
 .seq (
 .reg [⟨some 4, .mv (.t 3), none⟩,
 ⟨some 5, .mv (.t 0), none⟩,
 ⟨some 6, .len true (.t 5), none⟩,
 ⟨some 7, .bin .lss (.t 4) (.t 6), none⟩]) (
 .cond (.t 7) (
 .skip) (
 .exit 0))) (
 .seq (
 .blk 1 (
 .seq (
 .reg [⟨some 10, .mv (.t 0), none⟩,
 ⟨some 11, .mv (.t 3), none⟩,
 ⟨some 12, .ixt (.t 10) (.t 11), none⟩,
 ⟨some 13, .bin .lss (.t 12) (.c (.int .u8 97)), none⟩,
 ⟨some 14, .mv (.t 13), none⟩,
 ⟨some 15, .mv (.t 0), some (14, false)⟩,
 ⟨some 16, .mv (.t 3), some (14, false)⟩,
 ⟨some 17, .ixt (.t 15) (.t 16), some (14, false)⟩,
 ⟨some 18, .bin .gtr (.t 17) (.c (.int .u8 122)), some (14, false)⟩,
 ⟨some 19, .pick (.t 14) (.c (.bool true)) (.t 18), none⟩]) (
 .cond (.t 19) (
 .seq (
 .reg [⟨some 2, .mv (.c (.bool false)), none⟩]) (
 .ret)) (
 .skip)))) (
 .reg [⟨some 8, .mv (.t 3), none⟩,
 ⟨some 9, .bin .add (.t 8) (.c (.int .i64 1)), none⟩,
 ⟨some 3, .mv (.t 9), none⟩])))))) (
 .seq (
 .reg [⟨some 20, .mv (.t 0), none⟩,
 ⟨some 21, .len true (.t 20), none⟩,
 ⟨some 22, .bin .geq (.t 21) (.c (.int .i64 1)), none⟩,
 ⟨some 23, .mv (.t 22), none⟩,
 ⟨some 24, .mv (.t 0), some (23, true)⟩,
 ⟨some 25, .len true (.t 24), some (23, true)⟩,
 ⟨some 26, .bin .leq (.t 25) (.c (.int .i64 8)), some (23, true)⟩,
 ⟨some 27, .pick (.t 23) (.t 26) (.c (.bool false)), none⟩,
 ⟨some 2, .mv (.t 27), none⟩]) (
 .ret)))⟩
/-- loop.example/collabdoc/spec.conflicting -/
def v97 : VFunc := ⟨0, [.tmp 4],
 .seq (
 .reg [⟨some 2, .box (.t 0), none⟩,
 ⟨some 3, .box (.t 1), none⟩,
 ⟨some 4, .mv (.c (.bool false)), none⟩]) (
 .seq (
 .seq (
 .reg [⟨some 5, .ld (some 12) (.t 2), none⟩,
 ⟨some 6, .call 112 [] none [(.t 5)], none⟩,
 ⟨some 7, .not (.t 6), none⟩,
 ⟨some 8, .mv (.t 7), none⟩,
 ⟨some 9, .ld (some 12) (.t 3), some (8, false)⟩,
 ⟨some 10, .call 112 [] none [(.t 9)], some (8, false)⟩,
 ⟨some 11, .not (.t 10), some (8, false)⟩,
 ⟨some 12, .pick (.t 8) (.c (.bool true)) (.t 11), none⟩,
 ⟨some 13, .mv (.t 12), none⟩,
 ⟨some 14, .fld 3 (.t 2), some (13, false)⟩,
 ⟨some 15, .ld (some 2) (.t 14), some (13, false)⟩,
 ⟨some 16, .fld 3 (.t 3), some (13, false)⟩,
 ⟨some 17, .ld (some 2) (.t 16), some (13, false)⟩,
 ⟨some 18, .eqs [.i .i64, .i .i64] true (.t 15) (.t 17), some (13, false)⟩,
 ⟨some 19, .pick (.t 13) (.c (.bool true)) (.t 18), none⟩]) (
 .cond (.t 19) (
 .seq (
 .reg [⟨some 4, .mv (.c (.bool false)), none⟩]) (
 .ret)) (
 .skip))) (
 .seq (
 .reg [⟨some 20, .fld 2 (.t 2), none⟩,
 ⟨some 21, .ld none (.t 20), none⟩,
 ⟨some 22, .fld 2 (.t 3), none⟩,
 ⟨some 23, .ld none (.t 22), none⟩,
 ⟨some 24, .bin .neq (.t 21) (.t 23), none⟩,
 ⟨some 25, .mv (.t 24), none⟩,
 ⟨some 26, .fld 2 (.t 2), some (25, true)⟩,
 ⟨some 27, .ld none (.t 26), some (25, true)⟩,
 ⟨some 28, .bin .eql (.t 27) (.c (.int .i64 7)), some (25, true)⟩,
 ⟨some 29, .mv (.t 28), some (25, true)⟩,
 ⟨some 30, .fld 2 (.t 3), some (29, false)⟩,
 ⟨some 31, .ld none (.t 30), some (29, false)⟩,
 ⟨some 32, .bin .eql (.t 31) (.c (.int .i64 7)), some (29, false)⟩,
 ⟨some 33, .pick (.t 29) (.c (.bool true)) (.t 32), some (25, true)⟩,
 ⟨some 34, .pick (.t 25) (.t 33) (.c (.bool false)), none⟩,
 ⟨some 35, .mv (.t 34), none⟩,
 ⟨some 36, .fld 2 (.t 2), some (35, false)⟩,
 ⟨some 37, .ld none (.t 36), some (35, false)⟩,
 ⟨some 38, .fld 2 (.t 3), some (35, false)⟩,
 ⟨some 39, .ld none (.t 38), some (35, false)⟩,
 ⟨some 40, .bin .eql (.t 37) (.t 39), some (35, false)⟩,
 ⟨some 41, .mv (.t 40), some (35, false)⟩,
 ⟨some 42, .fld 9 (.t 2), some (41, true)⟩,
 ⟨some 43, .ld none (.t 42), some (41, true)⟩,
 ⟨some 44, .fld 9 (.t 3), some (41, true)⟩,
 ⟨some 45, .ld none (.t 44), some (41, true)⟩,
 ⟨some 46, .bin .neq (.t 43) (.t 45), some (41, true)⟩,
 ⟨some 47, .mv (.t 46), some (41, true)⟩,
 ⟨some 48, .fld 7 (.t 2), some (47, false)⟩,
 ⟨some 49, .ld (some 2) (.t 48), some (47, false)⟩,
 ⟨some 50, .fld 7 (.t 3), some (47, false)⟩,
 ⟨some 51, .ld (some 2) (.t 50), some (47, false)⟩,
 ⟨some 52, .eqs [.i .i64, .i .i64] true (.t 49) (.t 51), some (47, false)⟩,
 ⟨some 53, .pick (.t 47) (.c (.bool true)) (.t 52), some (41, true)⟩,
 ⟨some 54, .mv (.t 53), some (41, true)⟩,
 ⟨some 55, .fld 5 (.t 2), some (54, false)⟩,
 ⟨some 56, .ld (some 2) (.t 55), some (54, false)⟩,
 ⟨some 57, .fld 5 (.t 3), some (54, false)⟩,
 ⟨some 58, .ld (some 2) (.t 57), some (54, false)⟩,
 ⟨some 59, .eqs [.i .i64, .i .i64] true (.t 56) (.t 58), some (54, false)⟩,
 ⟨some 60, .pick (.t 54) (.c (.bool true)) (.t 59), some (41, true)⟩,
 ⟨some 61, .pick (.t 41) (.t 60) (.c (.bool false)), some (35, false)⟩,
 ⟨some 62, .pick (.t 35) (.c (.bool true)) (.t 61), none⟩,
 ⟨some 4, .mv (.t 62), none⟩]) (
 .ret)))⟩
/-- loop.example/collabdoc/spec.ValidStamp -/
def v99 : VFunc := ⟨0, [.tmp 2],
 .seq (
 .reg [⟨some 1, .box (.t 0), none⟩,
 ⟨some 2, .mv (.c (.bool false)), none⟩]) (
 .seq (
 .reg [⟨some 3, .ld (some 2) (.t 1), none⟩,
 ⟨some 4, .call 104 [] none [(.t 3)], none⟩,
 ⟨some 2, .mv (.t 4), none⟩]) (
 .ret))⟩
/-- loop.example/collabdoc/spec.inRange -/
def v100 : VFunc := ⟨0, [.tmp 6],
 .seq (
 .reg [⟨some 6, .mv (.c (.bool false)), none⟩]) (
 .seq (
 .reg [⟨some 7, .mv (.t 0), none⟩,
 ⟨some 8, .mv (.t 1), none⟩,
 ⟨some 9, .bin .geq (.t 7) (.t 8), none⟩,
 ⟨some 10, .mv (.t 9), none⟩,
 ⟨some 11, .mv (.t 0), some (10, true)⟩,
 ⟨some 12, .mv (.t 2), some (10, true)⟩,
 ⟨some 13, .bin .leq (.t 11) (.t 12), some (10, true)⟩,
 ⟨some 14, .pick (.t 10) (.t 13) (.c (.bool false)), none⟩,
 ⟨some 6, .mv (.t 14), none⟩]) (
 .ret))⟩
/-- loop.example/collabdoc/spec.rights -/
def v101 : VFunc := ⟨0, [.tmp 4, .tmp 5],
 .seq (
 .reg [⟨some 3, .box (.t 1), none⟩,
 ⟨some 4, .mv (.c (.sl [])), none⟩,
 ⟨some 5, .mv (.c (.sl [])), none⟩]) (
 .seq (
 .reg [⟨some 11, .mks 3 [.int .i64 0] (.c (.int .i64 3)) (.c (.int .i64 3)), none⟩,
 ⟨some 6, .mv (.t 11), none⟩]) (
 .seq (
 .reg [⟨some 12, .mv (.t 6), none⟩,
 ⟨some 13, .ixs 3 1 (.t 12) (.c (.int .i64 0)), none⟩,
 ⟨none, .sto 1 (.t 13) (.c (.int .i64 3)), none⟩]) (
 .seq (
 .reg [⟨some 14, .bsl true 4 1 [], none⟩,
 ⟨some 7, .mv (.t 14), none⟩]) (
 .seq (
 .seq (
 .reg [⟨some 8, .mv (.c (.int .i64 0)), none⟩]) (
 .blk 0 (
 .loop [0, 3, 6, 7, 8] (
 .seq (
 .seq (
 .reg [⟨some 15, .mv (.t 8), none⟩,
 ⟨some 16, .mv (.t 0), none⟩,
 ⟨some 17, .len false (.t 16), none⟩,
 ⟨some 18, .bin .lss (.t 15) (.t 17), none⟩,
 ⟨some 19, .mv (.t 18), none⟩,
 ⟨some 20, .mv (.t 0), some (19, true)⟩,
 ⟨some 21, .mv (.t 8), some (19, true)⟩,
 ⟨some 22, .ixs 65 5 (.t 20) (.t 21), some (19, true)⟩,
 ⟨some 23, .fld 0 (.t 22), some (19, true)⟩,
 ⟨some 24, .ld (some 2) (.t 23), some (19, true)⟩,
 ⟨some 25, .ld (some 2) (.t 3), some (19, true)⟩,
 ⟨some 26, .call 86 [] none [(.t 24), (.t 25)], some (19, true)⟩,
 ⟨some 27, .pick (.t 19) (.t 26) (.c (.bool false)), none⟩]) (
 .cond (.t 27) (
 .skip) (
 .exit 0))) (
 .seq (
 .blk 1 (
 .seq (
 .reg [⟨some 30, .mv (.t 0), none⟩,
 ⟨some 31, .mv (.t 8), none⟩,
 ⟨some 32, .ixs 65 5 (.t 30) (.t 31), none⟩,
 ⟨some 33, .ld (some 5) (.t 32), none⟩,
 ⟨some 9, .alloc [.int .i64 0, .int .i64 0, .int .i64 0, .int .i64 0, .bool false], none⟩,
 ⟨none, .sto 5 (.t 9) (.t 33), none⟩]) (
 .seq (
 .reg [⟨some 34, .mv (.t 6), none⟩,
 ⟨some 35, .fld 0 (.t 9), none⟩,
 ⟨some 36, .fld 1 (.t 35), none⟩,
 ⟨some 37, .ld none (.t 36), none⟩,
 ⟨some 38, .ixs 3 1 (.t 34) (.t 37), none⟩,
 ⟨some 39, .ld none (.t 38), none⟩,
 ⟨some 40, .bin .eql (.t 39) (.c (.int .i64 3)), none⟩,
 ⟨some 41, .mv (.t 40), none⟩,
 ⟨some 42, .fld 2 (.t 9), some (41, true)⟩,
 ⟨some 43, .ld none (.t 42), some (41, true)⟩,
 ⟨some 44, .bin .neq (.t 43) (.c (.int .i64 0)), some (41, true)⟩,
 ⟨some 45, .pick (.t 41) (.t 44) (.c (.bool false)), none⟩,
 ⟨some 10, .mv (.t 45), none⟩]) (
 .seq (
 .reg [⟨some 46, .mv (.t 7), none⟩,
 ⟨some 47, .mv (.t 10), none⟩,
 ⟨some 48, .bsl false 4 1 [(.t 47)], none⟩,
 ⟨some 49, .app true 4 [.bool false] (.t 46) (.t 48), none⟩,
 ⟨some 7, .mv (.t 49), none⟩]) (
 .seq (
 .seq (
 .reg [⟨some 50, .mv (.t 10), none⟩,
 ⟨some 51, .mv (.t 50), none⟩,
 ⟨some 52, .fld 4 (.t 9), some (51, true)⟩,
 ⟨some 53, .ld none (.t 52), some (51, true)⟩,
 ⟨some 54, .pick (.t 51) (.t 53) (.c (.bool false)), none⟩,
 ⟨some 55, .mv (.t 54), none⟩,
 ⟨some 56, .mv (.t 6), some (55, true)⟩,
 ⟨some 57, .fld 2 (.t 9), some (55, true)⟩,
 ⟨some 58, .ld none (.t 57), some (55, true)⟩,
 ⟨some 59, .ixs 3 1 (.t 56) (.t 58), some (55, true)⟩,
 ⟨some 60, .ld none (.t 59), some (55, true)⟩,
 ⟨some 61, .fld 3 (.t 9), some (55, true)⟩,
 ⟨some 62, .ld none (.t 61), some (55, true)⟩,
 ⟨some 63, .bin .lss (.t 60) (.t 62), some (55, true)⟩,
 ⟨some 64, .pick (.t 55) (.t 63) (.c (.bool false)), none⟩]) (
 .cond (.t 64) (
 .reg [⟨some 65, .mv (.t 6), none⟩,
 ⟨some 66, .fld 2 (.t 9), none⟩,
 ⟨some 67, .ld none (.t 66), none⟩,
 ⟨some 68, .fld 3 (.t 9), none⟩,
 ⟨some 69, .ld none (.t 68), none⟩,
 ⟨some 70, .ixs 3 1 (.t 65) (.t 67), none⟩,
 ⟨none, .sto 1 (.t 70) (.t 69), none⟩]) (
 .skip))) (
 .seq (
 .reg [⟨some 71, .mv (.t 10), none⟩,
 ⟨some 72, .mv (.t 71), none⟩,
 ⟨some 73, .fld 4 (.t 9), some (72, true)⟩,
 ⟨some 74, .ld none (.t 73), some (72, true)⟩,
 ⟨some 75, .not (.t 74), some (72, true)⟩,
 ⟨some 76, .pick (.t 72) (.t 75) (.c (.bool false)), none⟩,
 ⟨some 77, .mv (.t 76), none⟩,
 ⟨some 78, .mv (.t 6), some (77, true)⟩,
 ⟨some 79, .fld 2 (.t 9), some (77, true)⟩,
 ⟨some 80, .ld none (.t 79), some (77, true)⟩,
 ⟨some 81, .ixs 3 1 (.t 78) (.t 80), some (77, true)⟩,
 ⟨some 82, .ld none (.t 81), some (77, true)⟩,
 ⟨some 83, .fld 3 (.t 9), some (77, true)⟩,
 ⟨some 84, .ld none (.t 83), some (77, true)⟩,
 ⟨some 85, .bin .geq (.t 82) (.t 84), some (77, true)⟩,
 ⟨some 86, .pick (.t 77) (.t 85) (.c (.bool false)), none⟩]) (
 .cond (.t 86) (
 .reg [⟨some 87, .mv (.t 6), none⟩,
 ⟨some 88, .fld 2 (.t 9), none⟩,
 ⟨some 89, .ld none (.t 88), none⟩,
 ⟨some 90, .fld 3 (.t 9), none⟩,
 ⟨some 91, .ld none (.t 90), none⟩,
 ⟨some 92, .bin .sub (.t 91) (.c (.int .i64 1)), none⟩,
 ⟨some 93, .ixs 3 1 (.t 87) (.t 89), none⟩,
 ⟨none, .sto 1 (.t 93) (.t 92), none⟩]) (
 .skip)))))))) (
 .reg [⟨some 28, .mv (.t 8), none⟩,
 ⟨some 29, .bin .add (.t 28) (.c (.int .i64 1)), none⟩,
 ⟨some 8, .mv (.t 29), none⟩])))))) (
 .seq (
 .reg [⟨some 94, .mv (.t 6), none⟩,
 ⟨some 95, .mv (.t 7), none⟩,
 ⟨some 4, .mv (.t 94), none⟩,
 ⟨some 5, .mv (.t 95), none⟩]) (
 .ret))))))⟩
/-- loop.example/collabdoc/spec.requiredRight -/
def v102 : VFunc := ⟨0, [.tmp 2],
 .seq (
 .reg [⟨some 1, .box (.t 0), none⟩,
 ⟨some 2, .mv (.c (.int .i64 0)), none⟩]) (
 .seq (
 .seq (
 .reg [⟨some 3, .fld 2 (.t 1), none⟩,
 ⟨some 4, .ld none (.t 3), none⟩,
 ⟨some 5, .bin .eql (.t 4) (.c (.int .i64 8)), none⟩,
 ⟨some 6, .mv (.t 5), none⟩,
 ⟨some 7, .fld 2 (.t 1), some (6, false)⟩,
 ⟨some 8, .ld none (.t 7), some (6, false)⟩,
 ⟨some 9, .bin .eql (.t 8) (.c (.int .i64 9)), some (6, false)⟩,
 ⟨some 10, .pick (.t 6) (.c (.bool true)) (.t 9), none⟩]) (
 .cond (.t 10) (
 .seq (
 .reg [⟨some 2, .mv (.c (.int .i64 1)), none⟩]) (
 .ret)) (
 .skip))) (
 .seq (
 .reg [⟨some 2, .mv (.c (.int .i64 2)), none⟩]) (
 .ret)))⟩
/-- loop.example/collabdoc/spec.validStamp -/
def v104 : VFunc := ⟨0, [.tmp 2],
 .seq (
 .reg [⟨some 1, .box (.t 0), none⟩,
 ⟨some 2, .mv (.c (.bool false)), none⟩]) (
 .seq (
 .reg [⟨some 3, .fld 0 (.t 1), none⟩,
 ⟨some 4, .ld none (.t 3), none⟩,
 ⟨some 5, .call 100 [] none [(.t 4), (.c (.int .i64 1)), (.c (.int .i64 99))], none⟩,
 ⟨some 6, .mv (.t 5), none⟩,
 ⟨some 7, .fld 1 (.t 1), some (6, true)⟩,
 ⟨some 8, .ld none (.t 7), some (6, true)⟩,
 ⟨some 9, .call 100 [] none [(.t 8), (.c (.int .i64 0)), (.c (.int .i64 2))], some (6, true)⟩,
 ⟨some 10, .pick (.t 6) (.t 9) (.c (.bool false)), none⟩,
 ⟨some 2, .mv (.t 10), none⟩]) (
 .ret))⟩
/-- loop.example/collabdoc/spec.validRef -/
def v105 : VFunc := ⟨0, [.tmp 6],
 .seq (
 .reg [⟨some 3, .box (.t 0), none⟩,
 ⟨some 4, .box (.t 1), none⟩,
 ⟨some 6, .mv (.c (.bool false)), none⟩]) (
 .seq (
 .seq (
 .reg [⟨some 7, .ld (some 2) (.t 4), none⟩,
 ⟨some 8, .build [.int .i64 0, .int .i64 0] [], none⟩,
 ⟨some 9, .eqs [.i .i64, .i .i64] false (.t 7) (.t 8), none⟩]) (
 .cond (.t 9) (
 .seq (
 .reg [⟨some 10, .mv (.t 2), none⟩,
 ⟨some 6, .mv (.t 10), none⟩]) (
 .ret)) (
 .skip))) (
 .seq (
 .reg [⟨some 11, .ld (some 2) (.t 4), none⟩,
 ⟨some 12, .call 104 [] none [(.t 11)], none⟩,
 ⟨some 13, .mv (.t 12), none⟩,
 ⟨some 14, .ld (some 2) (.t 4), some (13, true)⟩,
 ⟨some 15, .fld 0 (.t 3), some (13, true)⟩,
 ⟨some 16, .ld (some 2) (.t 15), some (13, true)⟩,
 ⟨some 17, .call 86 [] none [(.t 14), (.t 16)], some (13, true)⟩,
 ⟨some 18, .pick (.t 13) (.t 17) (.c (.bool false)), none⟩,
 ⟨some 6, .mv (.t 18), none⟩]) (
 .ret)))⟩
/-- loop.example/collabdoc/spec.isZero -/
def v106 : VFunc := ⟨0, [.tmp 2],
 .seq (
 .reg [⟨some 1, .box (.t 0), none⟩,
 ⟨some 2, .mv (.c (.bool false)), none⟩]) (
 .seq (
 .reg [⟨some 3, .ld (some 2) (.t 1), none⟩,
 ⟨some 4, .build [.int .i64 0, .int .i64 0] [], none⟩,
 ⟨some 5, .eqs [.i .i64, .i .i64] false (.t 3) (.t 4), none⟩,
 ⟨some 2, .mv (.t 5), none⟩]) (
 .ret))⟩
/-- loop.example/collabdoc/spec.validWord -/
def v107 : VFunc := ⟨0, [.tmp 2],
 .seq (
 .reg [⟨some 2, .mv (.c (.bool false)), none⟩]) (
 .seq (
 .seq (
 .reg [⟨some 3, .mv (.c (.int .i64 0)), none⟩]) (
 .blk 0 (
 .loop [0, 3] (
 .seq (
 .seq (
 .reg [⟨some 4, .mv (.t 3), none⟩,
 ⟨some 5, .mv (.t 0), none⟩,
 ⟨some 6, .len true (.t 5), none⟩,
 ⟨some 7, .bin .lss (.t 4) (.t 6), none⟩]) (
 .cond (.t 7) (
 .skip) (
 .exit 0))) (
 .seq (
 .blk 1 (
 .seq (
 .reg [⟨some 10, .mv (.t 0), none⟩,
 ⟨some 11, .mv (.t 3), none⟩,
 ⟨some 12, .ixt (.t 10) (.t 11), none⟩,
 ⟨some 13, .bin .lss (.t 12) (.c (.int .u8 97)), none⟩,
 ⟨some 14, .mv (.t 13), none⟩,
 ⟨some 15, .mv (.t 0), some (14, false)⟩,
 ⟨some 16, .mv (.t 3), some (14, false)⟩,
 ⟨some 17, .ixt (.t 15) (.t 16), some (14, false)⟩,
 ⟨some 18, .bin .gtr (.t 17) (.c (.int .u8 122)), some (14, false)⟩,
 ⟨some 19, .pick (.t 14) (.c (.bool true)) (.t 18), none⟩]) (
 .cond (.t 19) (
 .seq (
 .reg [⟨some 2, .mv (.c (.bool false)), none⟩]) (
 .ret)) (
 .skip)))) (
 .reg [⟨some 8, .mv (.t 3), none⟩,
 ⟨some 9, .bin .add (.t 8) (.c (.int .i64 1)), none⟩,
 ⟨some 3, .mv (.t 9), none⟩])))))) (
 .seq (
 .reg [⟨some 20, .mv (.t 0), none⟩,
 ⟨some 21, .len true (.t 20), none⟩,
 ⟨some 22, .call 100 [] none [(.t 21), (.c (.int .i64 1)), (.c (.int .i64 8))], none⟩,
 ⟨some 2, .mv (.t 22), none⟩]) (
 .ret)))⟩
/-- loop.example/collabdoc/spec.writesBlock -/
def v112 : VFunc := ⟨0, [.tmp 2],
 .seq (
 .reg [⟨some 1, .box (.t 0), none⟩,
 ⟨some 2, .mv (.c (.bool false)), none⟩]) (
 .seq (
 .reg [⟨some 3, .fld 2 (.t 1), none⟩,
 ⟨some 4, .ld none (.t 3), none⟩,
 ⟨some 5, .bin .eql (.t 4) (.c (.int .i64 5)), none⟩,
 ⟨some 6, .mv (.t 5), none⟩,
 ⟨some 7, .fld 2 (.t 1), some (6, false)⟩,
 ⟨some 8, .ld none (.t 7), some (6, false)⟩,
 ⟨some 9, .bin .eql (.t 8) (.c (.int .i64 6)), some (6, false)⟩,
 ⟨some 10, .pick (.t 6) (.c (.bool true)) (.t 9), none⟩,
 ⟨some 11, .mv (.t 10), none⟩,
 ⟨some 12, .fld 2 (.t 1), some (11, false)⟩,
 ⟨some 13, .ld none (.t 12), some (11, false)⟩,
 ⟨some 14, .bin .eql (.t 13) (.c (.int .i64 7)), some (11, false)⟩,
 ⟨some 15, .pick (.t 11) (.c (.bool true)) (.t 14), none⟩,
 ⟨some 2, .mv (.t 15), none⟩]) (
 .ret))⟩
def table : List (Nat × VFunc) := [(3, v3), (4, v4), (7, v7), (11, v11), (15, v15), (16, v16), (17, v17), (18, v18), (19, v19), (20, v20), (21, v21), (22, v22), (23, v23), (31, v31), (32, v32), (33, v33), (34, v34), (35, v35), (36, v36), (37, v37), (44, v44), (45, v45), (46, v46), (47, v47), (48, v48), (49, v49), (51, v51), (52, v52), (53, v53), (54, v54), (55, v55), (56, v56), (57, v57), (58, v58), (59, v59), (60, v60), (67, v67), (68, v68), (69, v69), (70, v70), (71, v71), (73, v73), (74, v74), (76, v76), (77, v77), (78, v78), (79, v79), (81, v81), (82, v82), (83, v83), (84, v84), (85, v85), (86, v86), (87, v87), (88, v88), (94, v94), (95, v95), (96, v96), (97, v97), (99, v99), (100, v100), (101, v101), (102, v102), (104, v104), (105, v105), (106, v106), (107, v107), (112, v112)]
def C (f : Nat) : Option VFunc := table.lookup f
def M (f : Nat) : Nat := match C f with | some F => F.m | none => 0
end Go.Vi.Code
