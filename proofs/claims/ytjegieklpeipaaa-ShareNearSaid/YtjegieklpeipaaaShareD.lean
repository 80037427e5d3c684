/- What functions of this program do, on plain values: a part of the proofs of this seat's laws; each theorem bears its own conditions. -/
import Derived.Test.YtjegieklpeipaaaShareC
set_option linter.unusedVariables false
set_option linter.unusedSimpArgs false
set_option maxRecDepth 1000000
namespace Go.Proofs.Ytjegieklpeipaaa.Moi.Share
open Go Go.RowKit Go.Proofs.Ytjegieklpeipaaa.Moi Go.Proofs.Ytjegieklpeipaaa.Moi.Num
attribute [-wf_preprocess] ite_eq_dite forIn_eq_forIn'

/-! ### The parts of symMerge's small form, as it was printed -/
def d27a (T : NCode) : NCode :=
  .seq (.seq (.ops [
    ⟨(some 25), none, .op (.move (.r 2)), []⟩,
    ⟨(some 26), none, .op (.move (.r 1)), []⟩,
    ⟨(some 27), none, .op (.bin .sub .other (.r 25) (.r 26)), []⟩,
    ⟨(some 28), none, .op (.bin .eql .other (.r 27) (.k (i64 1))), []⟩])
  (.cond (.r 28)
  (.seq (.ops [
    ⟨(some 29), none, .op (.move (.r 2)), []⟩,
    ⟨(some 10), none, .op (.move (.r 29)), []⟩])
  (.seq (.ops [
    ⟨(some 30), none, .op (.move (.r 3)), []⟩,
    ⟨(some 11), none, .op (.move (.r 30)), []⟩])
  (.seq (.block 0 (.loop (.seq (.seq (.ops [
    ⟨(some 31), none, .op (.move (.r 10)), []⟩,
    ⟨(some 32), none, .op (.move (.r 11)), []⟩,
    ⟨(some 33), none, .op (.bin .lss .other (.r 31) (.r 32)), []⟩])
  (.cond (.r 33)
  (.skip)
  (.exit 0)))
  (.block 1 (.seq (.ops [
    ⟨(some 34), none, .op (.move (.r 10)), []⟩,
    ⟨(some 35), none, .op (.move (.r 11)), []⟩,
    ⟨(some 36), none, .op (.bin .add .other (.r 34) (.r 35)), []⟩,
    ⟨(some 37), none, .op (.conv .u64 (.r 36)), []⟩,
    ⟨(some 38), none, .op (.bin .shr .other (.r 37) (.k (.sc (.int .u64 1)))), []⟩,
    ⟨(some 39), none, .op (.conv .i64 (.r 38)), []⟩,
    ⟨(some 12), none, .op (.move (.r 39)), []⟩])
  (.seq (.ops [
    ⟨(some 40), none, .op (.move (.r 4)), []⟩,
    ⟨(some 41), none, .op (.move (.r 0)), []⟩,
    ⟨(some 42), none, .op (.move (.r 12)), []⟩,
    ⟨(some 43), none, .op (.idxAddr 2 (.r 41) (.r 42)), []⟩,
    ⟨(some 44), none, .op (.load (some 2) (.r 43)), []⟩,
    ⟨(some 45), none, .op (.move (.r 0)), []⟩,
    ⟨(some 46), none, .op (.move (.r 1)), []⟩,
    ⟨(some 47), none, .op (.idxAddr 2 (.r 45) (.r 46)), []⟩,
    ⟨(some 48), none, .op (.load (some 2) (.r 47)), []⟩,
    ⟨(some 49), none, .call (.r 40) [(.r 44), (.r 48)], []⟩,
    ⟨(some 50), none, .op (.bin .lss .other (.r 49) (.k (i64 0))), []⟩])
  (.cond (.r 50)
  (.ops [
    ⟨(some 51), none, .op (.move (.r 12)), []⟩,
    ⟨(some 52), none, .op (.bin .add .other (.r 51) (.k (i64 1))), []⟩,
    ⟨(some 10), none, .op (.move (.r 52)), []⟩])
  (.ops [
    ⟨(some 53), none, .op (.move (.r 12)), []⟩,
    ⟨(some 11), none, .op (.move (.r 53)), []⟩]))))))))
  (.seq (.seq (.ops [
    ⟨(some 54), none, .op (.move (.r 1)), []⟩,
    ⟨(some 13), none, .op (.move (.r 54)), []⟩])
  (.block 2 (.loop (.seq (.seq (.ops [
    ⟨(some 55), none, .op (.move (.r 13)), []⟩,
    ⟨(some 56), none, .op (.move (.r 10)), []⟩,
    ⟨(some 57), none, .op (.bin .sub .other (.r 56) (.k (i64 1))), []⟩,
    ⟨(some 58), none, .op (.bin .lss .other (.r 55) (.r 57)), []⟩])
  (.cond (.r 58)
  (.skip)
  (.exit 2)))
  (.seq (.block 3 (.ops [
    ⟨(some 61), none, .op (.move (.r 0)), []⟩,
    ⟨(some 62), none, .op (.move (.r 13)), []⟩,
    ⟨(some 63), none, .op (.move (.r 0)), []⟩,
    ⟨(some 64), none, .op (.move (.r 13)), []⟩,
    ⟨(some 65), none, .op (.bin .add .other (.r 64) (.k (i64 1))), []⟩,
    ⟨(some 66), none, .op (.move (.r 0)), []⟩,
    ⟨(some 67), none, .op (.move (.r 13)), []⟩,
    ⟨(some 68), none, .op (.bin .add .other (.r 67) (.k (i64 1))), []⟩,
    ⟨(some 69), none, .op (.idxAddr 2 (.r 66) (.r 68)), []⟩,
    ⟨(some 70), none, .op (.load (some 2) (.r 69)), []⟩,
    ⟨(some 71), none, .op (.move (.r 0)), []⟩,
    ⟨(some 72), none, .op (.move (.r 13)), []⟩,
    ⟨(some 73), none, .op (.idxAddr 2 (.r 71) (.r 72)), []⟩,
    ⟨(some 74), none, .op (.load (some 2) (.r 73)), []⟩,
    ⟨(some 75), none, .op (.idxAddr 2 (.r 61) (.r 62)), []⟩,
    ⟨none, none, .op (.store 2 (.r 75) (.r 70)), []⟩,
    ⟨(some 76), none, .op (.idxAddr 2 (.r 63) (.r 65)), []⟩,
    ⟨none, none, .op (.store 2 (.r 76) (.r 74)), []⟩]))
  (.ops [
    ⟨(some 59), none, .op (.move (.r 13)), []⟩,
    ⟨(some 60), none, .op (.bin .add .other (.r 59) (.k (i64 1))), []⟩,
    ⟨(some 13), none, .op (.move (.r 60)), []⟩]))))))
  (.ret)))))
  (.skip)))
  (T)

def d27b (T : NCode) : NCode :=
  .seq (.seq (.ops [
    ⟨(some 77), none, .op (.move (.r 3)), []⟩,
    ⟨(some 78), none, .op (.move (.r 2)), []⟩,
    ⟨(some 79), none, .op (.bin .sub .other (.r 77) (.r 78)), []⟩,
    ⟨(some 80), none, .op (.bin .eql .other (.r 79) (.k (i64 1))), []⟩])
  (.cond (.r 80)
  (.seq (.ops [
    ⟨(some 81), none, .op (.move (.r 1)), []⟩,
    ⟨(some 14), none, .op (.move (.r 81)), []⟩])
  (.seq (.ops [
    ⟨(some 82), none, .op (.move (.r 2)), []⟩,
    ⟨(some 15), none, .op (.move (.r 82)), []⟩])
  (.seq (.block 4 (.loop (.seq (.seq (.ops [
    ⟨(some 83), none, .op (.move (.r 14)), []⟩,
    ⟨(some 84), none, .op (.move (.r 15)), []⟩,
    ⟨(some 85), none, .op (.bin .lss .other (.r 83) (.r 84)), []⟩])
  (.cond (.r 85)
  (.skip)
  (.exit 4)))
  (.block 5 (.seq (.ops [
    ⟨(some 86), none, .op (.move (.r 14)), []⟩,
    ⟨(some 87), none, .op (.move (.r 15)), []⟩,
    ⟨(some 88), none, .op (.bin .add .other (.r 86) (.r 87)), []⟩,
    ⟨(some 89), none, .op (.conv .u64 (.r 88)), []⟩,
    ⟨(some 90), none, .op (.bin .shr .other (.r 89) (.k (.sc (.int .u64 1)))), []⟩,
    ⟨(some 91), none, .op (.conv .i64 (.r 90)), []⟩,
    ⟨(some 16), none, .op (.move (.r 91)), []⟩])
  (.seq (.ops [
    ⟨(some 92), none, .op (.move (.r 4)), []⟩,
    ⟨(some 93), none, .op (.move (.r 0)), []⟩,
    ⟨(some 94), none, .op (.move (.r 2)), []⟩,
    ⟨(some 95), none, .op (.idxAddr 2 (.r 93) (.r 94)), []⟩,
    ⟨(some 96), none, .op (.load (some 2) (.r 95)), []⟩,
    ⟨(some 97), none, .op (.move (.r 0)), []⟩,
    ⟨(some 98), none, .op (.move (.r 16)), []⟩,
    ⟨(some 99), none, .op (.idxAddr 2 (.r 97) (.r 98)), []⟩,
    ⟨(some 100), none, .op (.load (some 2) (.r 99)), []⟩,
    ⟨(some 101), none, .call (.r 92) [(.r 96), (.r 100)], []⟩,
    ⟨(some 102), none, .op (.bin .lss .other (.r 101) (.k (i64 0))), []⟩,
    ⟨(some 103), none, .op (.un .not (.r 102)), []⟩])
  (.cond (.r 103)
  (.ops [
    ⟨(some 104), none, .op (.move (.r 16)), []⟩,
    ⟨(some 105), none, .op (.bin .add .other (.r 104) (.k (i64 1))), []⟩,
    ⟨(some 14), none, .op (.move (.r 105)), []⟩])
  (.ops [
    ⟨(some 106), none, .op (.move (.r 16)), []⟩,
    ⟨(some 15), none, .op (.move (.r 106)), []⟩]))))))))
  (.seq (.seq (.ops [
    ⟨(some 107), none, .op (.move (.r 2)), []⟩,
    ⟨(some 17), none, .op (.move (.r 107)), []⟩])
  (.block 6 (.loop (.seq (.seq (.ops [
    ⟨(some 108), none, .op (.move (.r 17)), []⟩,
    ⟨(some 109), none, .op (.move (.r 14)), []⟩,
    ⟨(some 110), none, .op (.bin .gtr .other (.r 108) (.r 109)), []⟩])
  (.cond (.r 110)
  (.skip)
  (.exit 6)))
  (.seq (.block 7 (.ops [
    ⟨(some 113), none, .op (.move (.r 0)), []⟩,
    ⟨(some 114), none, .op (.move (.r 17)), []⟩,
    ⟨(some 115), none, .op (.move (.r 0)), []⟩,
    ⟨(some 116), none, .op (.move (.r 17)), []⟩,
    ⟨(some 117), none, .op (.bin .sub .other (.r 116) (.k (i64 1))), []⟩,
    ⟨(some 118), none, .op (.move (.r 0)), []⟩,
    ⟨(some 119), none, .op (.move (.r 17)), []⟩,
    ⟨(some 120), none, .op (.bin .sub .other (.r 119) (.k (i64 1))), []⟩,
    ⟨(some 121), none, .op (.idxAddr 2 (.r 118) (.r 120)), []⟩,
    ⟨(some 122), none, .op (.load (some 2) (.r 121)), []⟩,
    ⟨(some 123), none, .op (.move (.r 0)), []⟩,
    ⟨(some 124), none, .op (.move (.r 17)), []⟩,
    ⟨(some 125), none, .op (.idxAddr 2 (.r 123) (.r 124)), []⟩,
    ⟨(some 126), none, .op (.load (some 2) (.r 125)), []⟩,
    ⟨(some 127), none, .op (.idxAddr 2 (.r 113) (.r 114)), []⟩,
    ⟨none, none, .op (.store 2 (.r 127) (.r 122)), []⟩,
    ⟨(some 128), none, .op (.idxAddr 2 (.r 115) (.r 117)), []⟩,
    ⟨none, none, .op (.store 2 (.r 128) (.r 126)), []⟩]))
  (.ops [
    ⟨(some 111), none, .op (.move (.r 17)), []⟩,
    ⟨(some 112), none, .op (.bin .sub .other (.r 111) (.k (i64 1))), []⟩,
    ⟨(some 17), none, .op (.move (.r 112)), []⟩]))))))
  (.ret)))))
  (.skip)))
  (T)

def d27c (T : NCode) : NCode :=
  .seq (.ops [
    ⟨(some 129), none, .op (.move (.r 1)), []⟩,
    ⟨(some 130), none, .op (.move (.r 3)), []⟩,
    ⟨(some 131), none, .op (.bin .add .other (.r 129) (.r 130)), []⟩,
    ⟨(some 132), none, .op (.conv .u64 (.r 131)), []⟩,
    ⟨(some 133), none, .op (.bin .shr .other (.r 132) (.k (.sc (.int .u64 1)))), []⟩,
    ⟨(some 134), none, .op (.conv .i64 (.r 133)), []⟩,
    ⟨(some 18), none, .op (.move (.r 134)), []⟩])
  (.seq (.ops [
    ⟨(some 135), none, .op (.move (.r 18)), []⟩,
    ⟨(some 136), none, .op (.move (.r 2)), []⟩,
    ⟨(some 137), none, .op (.bin .add .other (.r 135) (.r 136)), []⟩,
    ⟨(some 19), none, .op (.move (.r 137)), []⟩])
  (.seq (.ops [
    ⟨(some 20), none, .op (.move (.k (i64 0))), []⟩,
    ⟨(some 21), none, .op (.move (.k (i64 0))), []⟩])
  (.seq (.seq (.ops [
    ⟨(some 138), none, .op (.move (.r 2)), []⟩,
    ⟨(some 139), none, .op (.move (.r 18)), []⟩,
    ⟨(some 140), none, .op (.bin .gtr .other (.r 138) (.r 139)), []⟩])
  (.cond (.r 140)
  (.seq (.ops [
    ⟨(some 141), none, .op (.move (.r 19)), []⟩,
    ⟨(some 142), none, .op (.move (.r 3)), []⟩,
    ⟨(some 143), none, .op (.bin .sub .other (.r 141) (.r 142)), []⟩,
    ⟨(some 20), none, .op (.move (.r 143)), []⟩])
  (.ops [
    ⟨(some 144), none, .op (.move (.r 18)), []⟩,
    ⟨(some 21), none, .op (.move (.r 144)), []⟩]))
  (.seq (.ops [
    ⟨(some 145), none, .op (.move (.r 1)), []⟩,
    ⟨(some 20), none, .op (.move (.r 145)), []⟩])
  (.ops [
    ⟨(some 146), none, .op (.move (.r 2)), []⟩,
    ⟨(some 21), none, .op (.move (.r 146)), []⟩]))))
  (.seq (.ops [
    ⟨(some 147), none, .op (.move (.r 19)), []⟩,
    ⟨(some 148), none, .op (.bin .sub .other (.r 147) (.k (i64 1))), []⟩,
    ⟨(some 22), none, .op (.move (.r 148)), []⟩])
  (T)))))

def d27d (T : NCode) : NCode :=
  .seq (.block 8 (.loop (.seq (.seq (.ops [
    ⟨(some 149), none, .op (.move (.r 20)), []⟩,
    ⟨(some 150), none, .op (.move (.r 21)), []⟩,
    ⟨(some 151), none, .op (.bin .lss .other (.r 149) (.r 150)), []⟩])
  (.cond (.r 151)
  (.skip)
  (.exit 8)))
  (.block 9 (.seq (.ops [
    ⟨(some 152), none, .op (.move (.r 20)), []⟩,
    ⟨(some 153), none, .op (.move (.r 21)), []⟩,
    ⟨(some 154), none, .op (.bin .add .other (.r 152) (.r 153)), []⟩,
    ⟨(some 155), none, .op (.conv .u64 (.r 154)), []⟩,
    ⟨(some 156), none, .op (.bin .shr .other (.r 155) (.k (.sc (.int .u64 1)))), []⟩,
    ⟨(some 157), none, .op (.conv .i64 (.r 156)), []⟩,
    ⟨(some 23), none, .op (.move (.r 157)), []⟩])
  (.seq (.ops [
    ⟨(some 158), none, .op (.move (.r 4)), []⟩,
    ⟨(some 159), none, .op (.move (.r 0)), []⟩,
    ⟨(some 160), none, .op (.move (.r 22)), []⟩,
    ⟨(some 161), none, .op (.move (.r 23)), []⟩,
    ⟨(some 162), none, .op (.bin .sub .other (.r 160) (.r 161)), []⟩,
    ⟨(some 163), none, .op (.idxAddr 2 (.r 159) (.r 162)), []⟩,
    ⟨(some 164), none, .op (.load (some 2) (.r 163)), []⟩,
    ⟨(some 165), none, .op (.move (.r 0)), []⟩,
    ⟨(some 166), none, .op (.move (.r 23)), []⟩,
    ⟨(some 167), none, .op (.idxAddr 2 (.r 165) (.r 166)), []⟩,
    ⟨(some 168), none, .op (.load (some 2) (.r 167)), []⟩,
    ⟨(some 169), none, .call (.r 158) [(.r 164), (.r 168)], []⟩,
    ⟨(some 170), none, .op (.bin .lss .other (.r 169) (.k (i64 0))), []⟩,
    ⟨(some 171), none, .op (.un .not (.r 170)), []⟩])
  (.cond (.r 171)
  (.ops [
    ⟨(some 172), none, .op (.move (.r 23)), []⟩,
    ⟨(some 173), none, .op (.bin .add .other (.r 172) (.k (i64 1))), []⟩,
    ⟨(some 20), none, .op (.move (.r 173)), []⟩])
  (.ops [
    ⟨(some 174), none, .op (.move (.r 23)), []⟩,
    ⟨(some 21), none, .op (.move (.r 174)), []⟩]))))))))
  (T)

def d27e (T : NCode) : NCode :=
  .seq (.ops [
    ⟨(some 175), none, .op (.move (.r 19)), []⟩,
    ⟨(some 176), none, .op (.move (.r 20)), []⟩,
    ⟨(some 177), none, .op (.bin .sub .other (.r 175) (.r 176)), []⟩,
    ⟨(some 24), none, .op (.move (.r 177)), []⟩])
  (.seq (.seq (.ops [
    ⟨(some 178), none, .op (.move (.r 20)), []⟩,
    ⟨(some 179), none, .op (.move (.r 2)), []⟩,
    ⟨(some 180), none, .op (.bin .lss .other (.r 178) (.r 179)), []⟩,
    ⟨(some 181), none, .op (.move (.r 180)), []⟩,
    ⟨(some 182), (some (181, true)), .op (.move (.r 2)), []⟩,
    ⟨(some 183), (some (181, true)), .op (.move (.r 24)), []⟩,
    ⟨(some 184), (some (181, true)), .op (.bin .lss .other (.r 182) (.r 183)), []⟩,
    ⟨(some 185), none, .op (.pick (.r 181) (.r 184) (.k (bo false))), []⟩])
  (.cond (.r 185)
  (.ops [
    ⟨(some 186), none, .op (.move (.r 0)), []⟩,
    ⟨(some 187), none, .op (.move (.r 20)), []⟩,
    ⟨(some 188), none, .op (.move (.r 2)), []⟩,
    ⟨(some 189), none, .op (.move (.r 24)), []⟩,
    ⟨(some 190), none, .op (.move (.r 4)), []⟩,
    ⟨(some 191), none, .call (.k (.clos 29 [])) [(.r 186), (.r 187), (.r 188), (.r 189), (.r 190)], []⟩])
  (.skip)))
  (T))

def d27f (T : NCode) : NCode :=
  .seq (.seq (.ops [
    ⟨(some 192), none, .op (.move (.r 1)), []⟩,
    ⟨(some 193), none, .op (.move (.r 20)), []⟩,
    ⟨(some 194), none, .op (.bin .lss .other (.r 192) (.r 193)), []⟩,
    ⟨(some 195), none, .op (.move (.r 194)), []⟩,
    ⟨(some 196), (some (195, true)), .op (.move (.r 20)), []⟩,
    ⟨(some 197), (some (195, true)), .op (.move (.r 18)), []⟩,
    ⟨(some 198), (some (195, true)), .op (.bin .lss .other (.r 196) (.r 197)), []⟩,
    ⟨(some 199), none, .op (.pick (.r 195) (.r 198) (.k (bo false))), []⟩])
  (.cond (.r 199)
  (.ops [
    ⟨(some 200), none, .op (.move (.r 0)), []⟩,
    ⟨(some 201), none, .op (.move (.r 1)), []⟩,
    ⟨(some 202), none, .op (.move (.r 20)), []⟩,
    ⟨(some 203), none, .op (.move (.r 18)), []⟩,
    ⟨(some 204), none, .op (.move (.r 4)), []⟩,
    ⟨(some 205), none, .call (.k (.clos 27 [])) [(.r 200), (.r 201), (.r 202), (.r 203), (.r 204)], []⟩])
  (.skip)))
  (T)

def d27g : NCode :=
  .seq (.ops [
    ⟨(some 206), none, .op (.move (.r 18)), []⟩,
    ⟨(some 207), none, .op (.move (.r 24)), []⟩,
    ⟨(some 208), none, .op (.bin .lss .other (.r 206) (.r 207)), []⟩,
    ⟨(some 209), none, .op (.move (.r 208)), []⟩,
    ⟨(some 210), (some (209, true)), .op (.move (.r 24)), []⟩,
    ⟨(some 211), (some (209, true)), .op (.move (.r 3)), []⟩,
    ⟨(some 212), (some (209, true)), .op (.bin .lss .other (.r 210) (.r 211)), []⟩,
    ⟨(some 213), none, .op (.pick (.r 209) (.r 212) (.k (bo false))), []⟩])
  (.cond (.r 213)
  (.ops [
    ⟨(some 214), none, .op (.move (.r 0)), []⟩,
    ⟨(some 215), none, .op (.move (.r 18)), []⟩,
    ⟨(some 216), none, .op (.move (.r 24)), []⟩,
    ⟨(some 217), none, .op (.move (.r 3)), []⟩,
    ⟨(some 218), none, .op (.move (.r 4)), []⟩,
    ⟨(some 219), none, .call (.k (.clos 27 [])) [(.r 214), (.r 215), (.r 216), (.r 217), (.r 218)], []⟩])
  (.skip))

theorem mid_split {l : List Cl} (h : 0 < l.length) : ∃ A x B, l = A ++ x :: B ∧ A.length = l.length / 2 := by
  have hi : l.length / 2 < l.length := by omega
  refine ⟨l.take (l.length / 2), l[l.length / 2], l.drop (l.length / 2 + 1), ?_, by rw [List.length_take]; omega⟩
  rw [← List.drop_eq_getElem_cons hi, List.take_append_drop]
theorem srt_app {A B : List Cl} : Srt (A ++ B) ↔ Srt A ∧ Srt B ∧ ∀ x ∈ A, ∀ y ∈ B, lt x y := List.pairwise_append
theorem srt_cons {x : Cl} {B : List Cl} : Srt (x :: B) ↔ (∀ y ∈ B, lt x y) ∧ Srt B := List.pairwise_cons
theorem shr1 {h : Nat} : (h : Int).fdiv (2 ^ min 1 IntKind.u64.bits) = ((h / 2 : Nat) : Int) := by
  rw [show (2 : Int) ^ min 1 IntKind.u64.bits = 2 from rfl, Int.fdiv_eq_ediv_of_nonneg _ (by omega)]; omega
theorem Wn {i : Nat} (h : i ≤ 35184372088832) : W (i : Int) = i := W_id (by unfold isI; omega)
theorem wadd {i j : Nat} (h : i + j ≤ 35184372088832) : W ((i : Int) + (j : Int)) = ((i + j : Nat) : Int) := (W_id (by unfold isI; omega)).trans (by omega)
theorem wadd1 {i : Nat} (h : i ≤ 35184372088832) : W ((i : Int) + 1) = ((i + 1 : Nat) : Int) := (W_id (by unfold isI; omega)).trans (by omega)
theorem wsub {i j k : Nat} (e : i = j + k) (h : i ≤ 35184372088832) : W ((i : Int) - (j : Int)) = (k : Int) := by subst e; exact (W_id (by unfold isI; omega)).trans (by omega)
theorem wsub1 {i k : Nat} (e : i = k + 1) (h : i ≤ 35184372088832) : W ((i : Int) - 1) = (k : Int) := by subst e; exact (W_id (by unfold isI; omega)).trans (by omega)
theorem lt_n {i j : Nat} (h : i < j) : ((i : Int) < (j : Int)) = True := by apply eq_true; omega
theorem lt_no {i j : Nat} (h : ¬ i < j) : ((i : Int) < (j : Int)) = False := by apply eq_false; omega
theorem U_small {h : Nat} (hh : h < 18446744073709551616) : U (h : Int) = h := U_nat hh rfl

section
variable {E : AV → Heap → Prop} {m : Heap} {ρ : Regs} {Kn Kr : Cont} {Kx : Nat → Cont} {T : NCode} {a n cap c d : Nat} {L P X Y Z : List Cl} {x y : Cl}

theorem ar1 {p t u v H w z n s : Nat} (hH : H = u + (v + 1)) (hA : u = H / 2) (hl : s = t + (H + w)) (hn : p + (1 + (s + z)) = n) (hn2 : n ≤ 17592186044416) :
    p + 1 + t + u < n ∧ p + 1 + t + (p + 1 + t + H) ≤ 35184372088832 ∧ p + 1 + t + (p + 1 + t + H) < 18446744073709551616 ∧ (p + 1 + t + (p + 1 + t + H)) / 2 = p + 1 + t + u ∧ p + 1 + t < p + 1 + t + H ∧ p + 1 + (t + (u + 1)) = p + 1 + t + u + 1 ∧ p + 1 + t + u + 1 + v = p + 1 + t + H ∧ v < H ∧ u < H := by
  refine ⟨?_, ?_, ?_, ?_, ?_, ?_, ?_, ?_, ?_⟩ <;> omega
theorem sm_a0 (hx : X.length ≠ 1) (hn : P.length + X.length + Y.length ≤ n) (hn2 : n ≤ 17592186044416) (g1 : ρ 1 = iv P.length) (g2 : ρ 2 = iv ((P.length + X.length : Nat) : Int))
    (k : ∀ ρ', (∀ i, i < 5 → ρ' i = ρ i) → vc Try.prog E T Kn Kx Kr ρ' m) : vc Try.prog E (d27a T) Kn Kx Kr ρ m := by
  have w1 : IntKind.i64.wrap (((P.length + X.length : Nat) : Int) - (P.length : Int)) = (X.length : Int) := by rw [wrap64] <;> omega
  have c1 : ¬ (X.length : Int) = 1 := by omega
  simp only [d27a, g1, g2, w1, c1, wf_preprocess, ↓reduceIte, Nat.reduceEqDiff, reduceCtorEq, Nat.reduceAdd, Nat.reduceMul, Nat.reduceLeDiff, Nat.reduceLT, Nat.reduceSub, Int.reduceToNat, Int.reduceNeg, Int.reduceAdd, Int.reduceSub, Int.reduceMul, Int.reduceEq, Int.reduceLT, Int.reduceLE, Int.reduceNe, forall_const, forall_eq', forall_eq, List.forall_mem_cons, List.not_mem_nil]
  refine k _ fun i hi => ?_
  rcases i with _ | _ | _ | _ | _ | i <;> first | (simp only [g1, g2, wf_preprocess, ↓reduceIte, Nat.reduceEqDiff, reduceCtorEq, Nat.reduceAdd, Nat.reduceMul, Nat.reduceLeDiff, Nat.reduceLT, Nat.reduceSub, Int.reduceToNat, Int.reduceNeg, Int.reduceAdd, Int.reduceSub, Int.reduceMul, Int.reduceEq, Int.reduceLT, Int.reduceLE, Int.reduceNe, forall_const, forall_eq', forall_eq, List.forall_mem_cons, List.not_mem_nil]; done) | omega
theorem sm_b0 (hx : Y.length ≠ 1) (hn : P.length + X.length + Y.length ≤ n) (hn2 : n ≤ 17592186044416) (g2 : ρ 2 = iv ((P.length + X.length : Nat) : Int)) (g3 : ρ 3 = iv ((P.length + X.length + Y.length : Nat) : Int))
    (k : ∀ ρ', (∀ i, i < 5 → ρ' i = ρ i) → vc Try.prog E T Kn Kx Kr ρ' m) : vc Try.prog E (d27b T) Kn Kx Kr ρ m := by
  have w1 : IntKind.i64.wrap (((P.length + X.length + Y.length : Nat) : Int) - ((P.length + X.length : Nat) : Int)) = (Y.length : Int) := by rw [wrap64] <;> omega
  have c1 : ¬ (Y.length : Int) = 1 := by omega
  simp only [d27b, g2, g3, w1, c1, wf_preprocess, ↓reduceIte, Nat.reduceEqDiff, reduceCtorEq, Nat.reduceAdd, Nat.reduceMul, Nat.reduceLeDiff, Nat.reduceLT, Nat.reduceSub, Int.reduceToNat, Int.reduceNeg, Int.reduceAdd, Int.reduceSub, Int.reduceMul, Int.reduceEq, Int.reduceLT, Int.reduceLE, Int.reduceNe, forall_const, forall_eq', forall_eq, List.forall_mem_cons, List.not_mem_nil]
  refine k _ fun i hi => ?_
  rcases i with _ | _ | _ | _ | _ | i <;> first | (simp only [g2, g3, wf_preprocess, ↓reduceIte, Nat.reduceEqDiff, reduceCtorEq, Nat.reduceAdd, Nat.reduceMul, Nat.reduceLeDiff, Nat.reduceLT, Nat.reduceSub, Int.reduceToNat, Int.reduceNeg, Int.reduceAdd, Int.reduceSub, Int.reduceMul, Int.reduceEq, Int.reduceLT, Int.reduceLE, Int.reduceNe, forall_const, forall_eq', forall_eq, List.forall_mem_cons, List.not_mem_nil]; done) | omega

/-- One before many. -/
theorem sm_a1 (hm : At a (P ++ (x :: (Y ++ Z))) m) (sy : Srt Y) (hxy : ∀ y ∈ Y, x.1 < y.1) (hn : P.length + (1 + (Y.length + Z.length)) = n) (hn2 : n ≤ 17592186044416)
    (g0 : ρ 0 = .mref a 0 n cap) (g1 : ρ 1 = iv P.length) (g2 : ρ 2 = iv ((P.length + 1 : Nat) : Int)) (g3 : ρ 3 = iv ((P.length + 1 + Y.length : Nat) : Int)) (g4 : ρ 4 = .clos 19 [])
    (k : ∀ ρ' S, S.Perm (x :: Y) → Srt S → Kr ρ' (wr a (P ++ (S ++ Z)) m)) : vc Try.prog E (d27a T) Kn Kx Kr ρ m := by
  have w1 : IntKind.i64.wrap (((P.length + 1 : Nat) : Int) - (P.length : Int)) = 1 := by rw [wrap64] <;> omega
  simp only [d27a, g0, g1, g2, g3, g4, w1, wf_preprocess, ↓reduceIte, Nat.reduceEqDiff, reduceCtorEq, Nat.reduceAdd, Nat.reduceMul, Nat.reduceLeDiff, Nat.reduceLT, Nat.reduceSub, Int.reduceToNat, Int.reduceNeg, Int.reduceAdd, Int.reduceSub, Int.reduceMul, Int.reduceEq, Int.reduceLT, Int.reduceLE, Int.reduceNe, forall_const, forall_eq', forall_eq, List.forall_mem_cons, List.not_mem_nil]
  refine loop_i (fun kk ρ' m' => ∃ (Y1 Y2 Y3 : List Cl), kk = Y2.length ∧ Y = Y1 ++ (Y2 ++ Y3) ∧ (∀ y ∈ Y1, lt y x) ∧ (∀ y ∈ Y3, lt x y) ∧ ρ' 0 = .mref a 0 n cap ∧ ρ' 1 = iv P.length ∧ ρ' 4 = .clos 19 [] ∧ ρ' 10 = iv ((P.length + 1 + Y1.length : Nat) : Int) ∧ ρ' 11 = iv ((P.length + 1 + Y1.length + Y2.length : Nat) : Int) ∧ m' = m) Y.length
    ⟨[], Y, [], rfl, by simp, by simp, by simp, ?_⟩ ?_
  · simp only [g0, g1, g2, g3, g4, List.length_nil, Nat.add_zero, wf_preprocess, ↓reduceIte, Nat.reduceEqDiff, reduceCtorEq, Nat.reduceAdd, Nat.reduceMul, Nat.reduceLeDiff, Nat.reduceLT, Nat.reduceSub, Int.reduceToNat, Int.reduceNeg, Int.reduceAdd, Int.reduceSub, Int.reduceMul, Int.reduceEq, Int.reduceLT, Int.reduceLE, Int.reduceNe, forall_const, forall_eq', forall_eq, List.forall_mem_cons, List.not_mem_nil]
  rintro kk ρ' m' ⟨Y1, Y2, Y3, rfl, hY, h1, h3, k0, k1, k4, k10, k11, rfl⟩
  have hYl := congrArg List.length hY
  simp only [List.length_append] at hYl
  by_cases he : Y2 = []
  · subst he
    simp only [List.length_nil, List.nil_append, Nat.add_zero] at k11 hY hYl
    have c1 : ¬ ((P.length + 1 + Y1.length : Nat) : Int) < ((P.length + 1 + Y1.length : Nat) : Int) := by omega
    have w2 : IntKind.i64.wrap (((P.length + 1 + Y1.length : Nat) : Int) - 1) = ((P.length + Y1.length : Nat) : Int) := by rw [wrap64] <;> omega
    simp only [k0, k1, k4, k10, k11, c1, wf_preprocess, ↓reduceIte, Nat.reduceEqDiff, reduceCtorEq, Nat.reduceAdd, Nat.reduceMul, Nat.reduceLeDiff, Nat.reduceLT, Nat.reduceSub, Int.reduceToNat, Int.reduceNeg, Int.reduceAdd, Int.reduceSub, Int.reduceMul, Int.reduceEq, Int.reduceLT, Int.reduceLE, Int.reduceNe, forall_const, forall_eq', forall_eq, List.forall_mem_cons, List.not_mem_nil]
    refine loop_i (fun kk ρ2 m2 => ∃ (A B : List Cl), kk = B.length ∧ Y1 = A ++ B ∧ ρ2 0 = .mref a 0 n cap ∧ ρ2 10 = iv ((P.length + 1 + Y1.length : Nat) : Int) ∧ ρ2 13 = iv ((P.length + A.length : Nat) : Int) ∧ m2 = wr a (P ++ (A ++ x :: (B ++ (Y3 ++ Z)))) m') Y1.length
      ⟨[], Y1, rfl, rfl, ?_⟩ ?_
    · simp only [k0, k1, k4, k10, k11, List.length_nil, Nat.add_zero, List.nil_append, wf_preprocess, ↓reduceIte, Nat.reduceEqDiff, reduceCtorEq, Nat.reduceAdd, Nat.reduceMul, Nat.reduceLeDiff, Nat.reduceLT, Nat.reduceSub, Int.reduceToNat, Int.reduceNeg, Int.reduceAdd, Int.reduceSub, Int.reduceMul, Int.reduceEq, Int.reduceLT, Int.reduceLE, Int.reduceNe, forall_const, forall_eq', forall_eq, List.forall_mem_cons, List.not_mem_nil]
      rw [show x :: (Y1 ++ (Y3 ++ Z)) = x :: (Y ++ Z) by rw [hY]; simp]
      exact hm.same.symm
    rintro kk ρ2 m2 ⟨A, B, rfl, hAB, l0, l10, l13, rfl⟩
    have hABl := congrArg List.length hAB
    rw [List.length_append] at hABl
    rcases B with _ | ⟨y, B⟩
    · rw [List.append_nil] at hAB
      subst hAB
      have c2 : ¬ ((P.length + Y1.length : Nat) : Int) < ((P.length + Y1.length : Nat) : Int) := by omega
      have := k ρ2 (Y1 ++ x :: Y3) (by rw [hY]; exact List.perm_middle) (by
        rw [hY] at sy
        obtain ⟨s1, s2, s3⟩ := srt_app.1 sy
        refine srt_app.2 ⟨s1, srt_cons.2 ⟨h3, s2⟩, fun u hu v hv => ?_⟩
        rcases List.mem_cons.1 hv with rfl | hv
        · exact h1 u hu
        · exact s3 u hu v hv)
      simp only [l0, l10, l13, c2, w2, wf_preprocess, ↓reduceIte, Nat.reduceEqDiff, reduceCtorEq, Nat.reduceAdd, Nat.reduceMul, Nat.reduceLeDiff, Nat.reduceLT, Nat.reduceSub, Int.reduceToNat, Int.reduceNeg, Int.reduceAdd, Int.reduceSub, Int.reduceMul, Int.reduceEq, Int.reduceLT, Int.reduceLE, Int.reduceNe, forall_const, forall_eq', forall_eq, List.forall_mem_cons, List.not_mem_nil]
      simpa using k _ (Y1 ++ x :: Y3) (by rw [hY]; exact List.perm_middle) (by
        rw [hY] at sy
        obtain ⟨s1, s2, s3⟩ := srt_app.1 sy
        refine srt_app.2 ⟨s1, srt_cons.2 ⟨h3, s2⟩, fun u hu v hv => ?_⟩
        rcases List.mem_cons.1 hv with rfl | hv
        · exact h1 u hu
        · exact s3 u hu v hv)
    · simp only [List.length_cons] at hABl
      have c2 : ((P.length + A.length : Nat) : Int) < ((P.length + Y1.length : Nat) : Int) := by omega
      have w3 : IntKind.i64.wrap (((P.length + A.length : Nat) : Int) + 1) = ((P.length + A.length + 1 : Nat) : Int) := by rw [wrap64] <;> omega
      have b1 : ((P.length + A.length + 1 : Nat) : Int) < (n : Int) := by omega
      have b2 : ((P.length + A.length : Nat) : Int) < (n : Int) := by omega
      have hat : At a (P ++ (A ++ x :: (y :: B ++ (Y3 ++ Z)))) (wr a (P ++ (A ++ x :: (y :: B ++ (Y3 ++ Z)))) m') := hm.put
      have eL : P ++ (A ++ x :: (y :: B ++ (Y3 ++ Z))) = (P ++ A) ++ x :: y :: (B ++ (Y3 ++ Z)) := by simp
      obtain ⟨t1, t2, _, _, t5, t6⟩ := two_facts eL (i := P.length + A.length) (by simp)
      obtain ⟨f1, f2, f3⟩ := pc_facts t1
      obtain ⟨f4, f5, f6⟩ := pc_facts t2
      obtain ⟨f7, f8, f9⟩ := pc_facts t5
      unfold At at hat
      generalize P ++ (A ++ x :: (y :: B ++ (Y3 ++ Z))) = L at *
      have gp := get_put (ob := .cells (pc (L.set (P.length + A.length) y))) hat
      simp only [l0, l10, l13, c2, w2, w3, b1, b2, hat, Int.natCast_nonneg, f1, f2, f3, f4, f5, f6, f7, f8, f9, pc_set, gp, put_put, t6, wf_preprocess, ↓reduceIte, Nat.reduceEqDiff, reduceCtorEq, Nat.reduceAdd, Nat.reduceMul, Nat.reduceLeDiff, Nat.reduceLT, Nat.reduceSub, Int.reduceToNat, Int.reduceNeg, Int.reduceAdd, Int.reduceSub, Int.reduceMul, Int.reduceEq, Int.reduceLT, Int.reduceLE, Int.reduceNe, forall_const, forall_eq', forall_eq, List.forall_mem_cons, List.not_mem_nil]
      refine ⟨B.length, by simp, A ++ [y], B, rfl, by simp [hAB], ?_⟩
      simp [wr, put_put]
      omega
  · obtain ⟨A, y, B, rfl, hA⟩ := mid_split (List.length_pos_iff.2 he)
    obtain ⟨H, hh⟩ : ∃ H, H = (A ++ y :: B).length := ⟨_, rfl⟩
    have hH : H = A.length + (B.length + 1) := by rw [hh, List.length_append, List.length_cons]
    rw [← hh] at hA k11 hYl ⊢
    obtain ⟨q1, q2, q2', w3, q3, q4, q5, q6, q7⟩ := ar1 (p := P.length) (t := Y1.length) (u := A.length) (v := B.length) hH hA hYl hn hn2
    have c1 := lt_n q3
    have w2 := wadd q2
    have u2 := U_small q2'
    have w4 := Wn (i := P.length + 1 + Y1.length + A.length) (Nat.le_trans (Nat.le_of_lt q1) (Nat.le_trans hn2 (by decide)))
    have w5 := wadd1 (i := P.length + 1 + Y1.length + A.length) (Nat.le_trans (Nat.le_of_lt q1) (Nat.le_trans hn2 (by decide)))
    have b1 := lt_n q1
    have b2 := lt_n (i := P.length) (j := n) (Nat.lt_of_le_of_lt (by rw [Nat.add_assoc, Nat.add_assoc]; exact Nat.le_add_right ..) q1)
    have t1 : (P ++ (x :: (Y ++ Z)))[P.length]? = some x := mid_get rfl
    have t2 : (P ++ (x :: (Y ++ Z)))[P.length + 1 + Y1.length + A.length]? = some y := by
      rw [hY, show P ++ x :: (Y1 ++ (A ++ y :: B ++ Y3) ++ Z) = (P ++ x :: (Y1 ++ A)) ++ y :: (B ++ (Y3 ++ Z)) by simp]
      exact mid_get (by simp; omega)
    obtain ⟨f1, f2, f3⟩ := pc_facts t1
    obtain ⟨f4, f5, f6⟩ := pc_facts t2
    have hat := hm
    unfold At at hat
    generalize P ++ (x :: (Y ++ Z)) = L at hat t1 t2 f1 f2 f3 f4 f5 f6
    have hyx : x.1 < y.1 := hxy y (by rw [hY]; simp)
    have sy2 := sy
    have hY' := hY
    rw [hY] at sy2
    obtain ⟨s1, s2, s3⟩ := srt_app.1 sy2
    obtain ⟨s4, s5, s6⟩ := srt_app.1 s2
    obtain ⟨s7, s8, s9⟩ := srt_app.1 s4
    obtain ⟨s10, s11⟩ := srt_cons.1 s8
    clear hYl hH hn hn2 hY
    simp only [k0, k1, k4, k10, k11, c1, wi, wu, w2, u2, shr1, w3, w4, b1, b2, hat, Int.natCast_nonneg, f1, f2, f3, f4, f5, f6, wf_preprocess, ↓reduceIte, Nat.reduceEqDiff, reduceCtorEq, Nat.reduceAdd, Nat.reduceMul, Nat.reduceLeDiff, Nat.reduceLT, Nat.reduceSub, Int.reduceToNat, Int.reduceNeg, Int.reduceAdd, Int.reduceSub, Int.reduceMul, Int.reduceEq, Int.reduceLT, Int.reduceLE, Int.reduceNe, forall_const, forall_eq', forall_eq, List.forall_mem_cons, List.not_mem_nil]
    refine call_i (cmp_s ?_)
    by_cases hc : x.2 < y.2
    · have hl : lt y x := (lt_back hyx).2 hc
      simp only [k0, k1, k4, k10, k11, cmp_neg, hc, wi, w5, wf_preprocess, ↓reduceIte, Nat.reduceEqDiff, reduceCtorEq, Nat.reduceAdd, Nat.reduceMul, Nat.reduceLeDiff, Nat.reduceLT, Nat.reduceSub, Int.reduceToNat, Int.reduceNeg, Int.reduceAdd, Int.reduceSub, Int.reduceMul, Int.reduceEq, Int.reduceLT, Int.reduceLE, Int.reduceNe, forall_const, forall_eq', forall_eq, List.forall_mem_cons, List.not_mem_nil]
      refine ⟨B.length, q6, Y1 ++ (A ++ [y]), B, Y3, rfl, by rw [hY']; simp, ?_, h3, ?_⟩
      · intro u hu
        simp only [List.mem_append, List.mem_singleton] at hu
        rcases hu with hu | hu | rfl
        · exact h1 u hu
        · exact lt_trans' (s9 u hu y (by simp)) hl
        · exact hl
      · simp only [List.length_append, List.length_singleton, q4, q5, and_self]
    · have hl : lt x y := (lt_of hyx).2 hc
      simp only [k0, k1, k4, k10, k11, cmp_neg, hc, wf_preprocess, ↓reduceIte, Nat.reduceEqDiff, reduceCtorEq, Nat.reduceAdd, Nat.reduceMul, Nat.reduceLeDiff, Nat.reduceLT, Nat.reduceSub, Int.reduceToNat, Int.reduceNeg, Int.reduceAdd, Int.reduceSub, Int.reduceMul, Int.reduceEq, Int.reduceLT, Int.reduceLE, Int.reduceNe, forall_const, forall_eq', forall_eq, List.forall_mem_cons, List.not_mem_nil]
      refine ⟨A.length, q7, Y1, A, y :: (B ++ Y3), rfl, by rw [hY']; simp, h1, ?_, ?_⟩
      · intro u hu
        simp only [List.mem_cons, List.mem_append] at hu
        rcases hu with rfl | hu | hu
        · exact hl
        · exact lt_trans' hl (s10 u hu)
        · exact h3 u hu
      · simp
end
end Go.Proofs.Ytjegieklpeipaaa.Moi.Share
