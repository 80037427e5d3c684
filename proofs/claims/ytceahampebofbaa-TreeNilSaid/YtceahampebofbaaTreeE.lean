/- What functions of this program do, on plain values: a part of the proofs of this seat's laws; each theorem bears its own conditions. -/
import Derived.Test.YtceahampebofbaaTreeD
set_option linter.unusedVariables false
set_option linter.unusedSimpArgs false
set_option maxRecDepth 1000000
namespace Go.Proofs.Ytceahampebofbaa.Moi.Tree
open Go Go.RowKit Go.Proofs.Ytceahampebofbaa.Moi
attribute [-wf_preprocess] ite_eq_dite forIn_eq_forIn'

/-! ### The parts of New's small form, as it was printed -/
def d8a (T : NCode) : NCode :=
  .seq (.ops [
    ⟨(some 2), none, .op (.move (.k (.sc (.pointer none)))), []⟩,
    ⟨(some 3), none, .op (.move (.k (i64 0))), []⟩,
    ⟨(some 4), none, .op (.move (.k (i64 0))), []⟩])
  (.seq (.seq (.ops [
    ⟨(some 11), none, .op (.move (.r 0)), []⟩,
    ⟨(some 12), none, .op (.lenL (.r 11)), []⟩,
    ⟨(some 13), none, .op (.bin .eql .other (.r 12) (.k (i64 0))), []⟩,
    ⟨(some 14), none, .op (.move (.r 13)), []⟩,
    ⟨(some 15), (some (14, false)), .op (.move (.r 0)), []⟩,
    ⟨(some 16), (some (14, false)), .op (.lenL (.r 15)), []⟩,
    ⟨(some 17), (some (14, false)), .op (.bin .gtr .other (.r 16) (.k (i64 32))), []⟩,
    ⟨(some 18), none, .op (.pick (.r 14) (.k (bo true)) (.r 17)), []⟩])
  (.cond (.r 18)
  (.seq (.ops [
    ⟨(some 2), none, .op (.move (.k (.sc (.pointer none)))), []⟩,
    ⟨(some 3), none, .op (.move (.k (i64 0))), []⟩,
    ⟨(some 4), none, .op (.move (.k (i64 5))), []⟩])
  (.ret))
  (.skip)))
  (T))

def d8b (T : NCode) : NCode :=
  .seq (.tree (.one ⟨(some 19), none, .op (.move (.r 0)), []⟩
    (.one ⟨(some 22), none, .op (.move (.r 0)), []⟩
    (.one ⟨(some 23), none, .op (.lenL (.r 22)), []⟩
    (.one ⟨(some 25), none, .op (.move (.r 0)), []⟩
    (.one ⟨(some 26), none, .op (.lenL (.r 25)), []⟩
    (.both
    (.one ⟨(some 20), none, .call (.k (.clos 36 [])) [(.r 19)], []⟩
    (.both
    (.one ⟨(some 21), none, .op (.mkMap), []⟩
    (.both
    (.one ⟨(some 24), none, .op (.mkSlice 1 24 [(.lst [] .nil)] (.r 23) (.r 23)), []⟩
    (.one ⟨(some 27), none, .op (.mkSlice 2 16 [(i64 0), (i64 0)] (.r 26) (.r 26)), []⟩
    (.one ⟨(some 28), none, .op (.build [(.lst [] .nil), (.sc (.map none)), (.lst [] .nil), (.lst [] .nil), (.lst [] .nil), (.lst [] .nil)] [(0, 1, (.r 20)), (1, 1, (.r 21)), (2, 1, (.r 24)), (5, 1, (.r 27))]), []⟩
    (.one ⟨(some 29), none, .op (.box (.r 28)), []⟩
    (.one ⟨(some 5), none, .op (.move (.r 29)), []⟩
    (.nil))))))
    (.one ⟨(some 27), none, .op (.mkSlice 2 16 [(i64 0), (i64 0)] (.r 26) (.r 26)), []⟩
    (.one ⟨(some 24), none, .op (.mkSlice 1 24 [(.lst [] .nil)] (.r 23) (.r 23)), []⟩
    (.one ⟨(some 28), none, .op (.build [(.lst [] .nil), (.sc (.map none)), (.lst [] .nil), (.lst [] .nil), (.lst [] .nil), (.lst [] .nil)] [(0, 1, (.r 20)), (1, 1, (.r 21)), (2, 1, (.r 24)), (5, 1, (.r 27))]), []⟩
    (.one ⟨(some 29), none, .op (.box (.r 28)), []⟩
    (.one ⟨(some 5), none, .op (.move (.r 29)), []⟩
    (.nil))))))))
    (.both
    (.one ⟨(some 24), none, .op (.mkSlice 1 24 [(.lst [] .nil)] (.r 23) (.r 23)), []⟩
    (.both
    (.one ⟨(some 21), none, .op (.mkMap), []⟩
    (.one ⟨(some 27), none, .op (.mkSlice 2 16 [(i64 0), (i64 0)] (.r 26) (.r 26)), []⟩
    (.one ⟨(some 28), none, .op (.build [(.lst [] .nil), (.sc (.map none)), (.lst [] .nil), (.lst [] .nil), (.lst [] .nil), (.lst [] .nil)] [(0, 1, (.r 20)), (1, 1, (.r 21)), (2, 1, (.r 24)), (5, 1, (.r 27))]), []⟩
    (.one ⟨(some 29), none, .op (.box (.r 28)), []⟩
    (.one ⟨(some 5), none, .op (.move (.r 29)), []⟩
    (.nil))))))
    (.one ⟨(some 27), none, .op (.mkSlice 2 16 [(i64 0), (i64 0)] (.r 26) (.r 26)), []⟩
    (.one ⟨(some 21), none, .op (.mkMap), []⟩
    (.one ⟨(some 28), none, .op (.build [(.lst [] .nil), (.sc (.map none)), (.lst [] .nil), (.lst [] .nil), (.lst [] .nil), (.lst [] .nil)] [(0, 1, (.r 20)), (1, 1, (.r 21)), (2, 1, (.r 24)), (5, 1, (.r 27))]), []⟩
    (.one ⟨(some 29), none, .op (.box (.r 28)), []⟩
    (.one ⟨(some 5), none, .op (.move (.r 29)), []⟩
    (.nil))))))))
    (.one ⟨(some 27), none, .op (.mkSlice 2 16 [(i64 0), (i64 0)] (.r 26) (.r 26)), []⟩
    (.both
    (.one ⟨(some 21), none, .op (.mkMap), []⟩
    (.one ⟨(some 24), none, .op (.mkSlice 1 24 [(.lst [] .nil)] (.r 23) (.r 23)), []⟩
    (.one ⟨(some 28), none, .op (.build [(.lst [] .nil), (.sc (.map none)), (.lst [] .nil), (.lst [] .nil), (.lst [] .nil), (.lst [] .nil)] [(0, 1, (.r 20)), (1, 1, (.r 21)), (2, 1, (.r 24)), (5, 1, (.r 27))]), []⟩
    (.one ⟨(some 29), none, .op (.box (.r 28)), []⟩
    (.one ⟨(some 5), none, .op (.move (.r 29)), []⟩
    (.nil))))))
    (.one ⟨(some 24), none, .op (.mkSlice 1 24 [(.lst [] .nil)] (.r 23) (.r 23)), []⟩
    (.one ⟨(some 21), none, .op (.mkMap), []⟩
    (.one ⟨(some 28), none, .op (.build [(.lst [] .nil), (.sc (.map none)), (.lst [] .nil), (.lst [] .nil), (.lst [] .nil), (.lst [] .nil)] [(0, 1, (.r 20)), (1, 1, (.r 21)), (2, 1, (.r 24)), (5, 1, (.r 27))]), []⟩
    (.one ⟨(some 29), none, .op (.box (.r 28)), []⟩
    (.one ⟨(some 5), none, .op (.move (.r 29)), []⟩
    (.nil)))))))))))
    (.both
    (.one ⟨(some 21), none, .op (.mkMap), []⟩
    (.both
    (.one ⟨(some 20), none, .call (.k (.clos 36 [])) [(.r 19)], []⟩
    (.both
    (.one ⟨(some 24), none, .op (.mkSlice 1 24 [(.lst [] .nil)] (.r 23) (.r 23)), []⟩
    (.one ⟨(some 27), none, .op (.mkSlice 2 16 [(i64 0), (i64 0)] (.r 26) (.r 26)), []⟩
    (.one ⟨(some 28), none, .op (.build [(.lst [] .nil), (.sc (.map none)), (.lst [] .nil), (.lst [] .nil), (.lst [] .nil), (.lst [] .nil)] [(0, 1, (.r 20)), (1, 1, (.r 21)), (2, 1, (.r 24)), (5, 1, (.r 27))]), []⟩
    (.one ⟨(some 29), none, .op (.box (.r 28)), []⟩
    (.one ⟨(some 5), none, .op (.move (.r 29)), []⟩
    (.nil))))))
    (.one ⟨(some 27), none, .op (.mkSlice 2 16 [(i64 0), (i64 0)] (.r 26) (.r 26)), []⟩
    (.one ⟨(some 24), none, .op (.mkSlice 1 24 [(.lst [] .nil)] (.r 23) (.r 23)), []⟩
    (.one ⟨(some 28), none, .op (.build [(.lst [] .nil), (.sc (.map none)), (.lst [] .nil), (.lst [] .nil), (.lst [] .nil), (.lst [] .nil)] [(0, 1, (.r 20)), (1, 1, (.r 21)), (2, 1, (.r 24)), (5, 1, (.r 27))]), []⟩
    (.one ⟨(some 29), none, .op (.box (.r 28)), []⟩
    (.one ⟨(some 5), none, .op (.move (.r 29)), []⟩
    (.nil))))))))
    (.both
    (.one ⟨(some 24), none, .op (.mkSlice 1 24 [(.lst [] .nil)] (.r 23) (.r 23)), []⟩
    (.both
    (.one ⟨(some 20), none, .call (.k (.clos 36 [])) [(.r 19)], []⟩
    (.one ⟨(some 27), none, .op (.mkSlice 2 16 [(i64 0), (i64 0)] (.r 26) (.r 26)), []⟩
    (.one ⟨(some 28), none, .op (.build [(.lst [] .nil), (.sc (.map none)), (.lst [] .nil), (.lst [] .nil), (.lst [] .nil), (.lst [] .nil)] [(0, 1, (.r 20)), (1, 1, (.r 21)), (2, 1, (.r 24)), (5, 1, (.r 27))]), []⟩
    (.one ⟨(some 29), none, .op (.box (.r 28)), []⟩
    (.one ⟨(some 5), none, .op (.move (.r 29)), []⟩
    (.nil))))))
    (.one ⟨(some 27), none, .op (.mkSlice 2 16 [(i64 0), (i64 0)] (.r 26) (.r 26)), []⟩
    (.one ⟨(some 20), none, .call (.k (.clos 36 [])) [(.r 19)], []⟩
    (.one ⟨(some 28), none, .op (.build [(.lst [] .nil), (.sc (.map none)), (.lst [] .nil), (.lst [] .nil), (.lst [] .nil), (.lst [] .nil)] [(0, 1, (.r 20)), (1, 1, (.r 21)), (2, 1, (.r 24)), (5, 1, (.r 27))]), []⟩
    (.one ⟨(some 29), none, .op (.box (.r 28)), []⟩
    (.one ⟨(some 5), none, .op (.move (.r 29)), []⟩
    (.nil))))))))
    (.one ⟨(some 27), none, .op (.mkSlice 2 16 [(i64 0), (i64 0)] (.r 26) (.r 26)), []⟩
    (.both
    (.one ⟨(some 20), none, .call (.k (.clos 36 [])) [(.r 19)], []⟩
    (.one ⟨(some 24), none, .op (.mkSlice 1 24 [(.lst [] .nil)] (.r 23) (.r 23)), []⟩
    (.one ⟨(some 28), none, .op (.build [(.lst [] .nil), (.sc (.map none)), (.lst [] .nil), (.lst [] .nil), (.lst [] .nil), (.lst [] .nil)] [(0, 1, (.r 20)), (1, 1, (.r 21)), (2, 1, (.r 24)), (5, 1, (.r 27))]), []⟩
    (.one ⟨(some 29), none, .op (.box (.r 28)), []⟩
    (.one ⟨(some 5), none, .op (.move (.r 29)), []⟩
    (.nil))))))
    (.one ⟨(some 24), none, .op (.mkSlice 1 24 [(.lst [] .nil)] (.r 23) (.r 23)), []⟩
    (.one ⟨(some 20), none, .call (.k (.clos 36 [])) [(.r 19)], []⟩
    (.one ⟨(some 28), none, .op (.build [(.lst [] .nil), (.sc (.map none)), (.lst [] .nil), (.lst [] .nil), (.lst [] .nil), (.lst [] .nil)] [(0, 1, (.r 20)), (1, 1, (.r 21)), (2, 1, (.r 24)), (5, 1, (.r 27))]), []⟩
    (.one ⟨(some 29), none, .op (.box (.r 28)), []⟩
    (.one ⟨(some 5), none, .op (.move (.r 29)), []⟩
    (.nil)))))))))))
    (.both
    (.one ⟨(some 24), none, .op (.mkSlice 1 24 [(.lst [] .nil)] (.r 23) (.r 23)), []⟩
    (.both
    (.one ⟨(some 20), none, .call (.k (.clos 36 [])) [(.r 19)], []⟩
    (.both
    (.one ⟨(some 21), none, .op (.mkMap), []⟩
    (.one ⟨(some 27), none, .op (.mkSlice 2 16 [(i64 0), (i64 0)] (.r 26) (.r 26)), []⟩
    (.one ⟨(some 28), none, .op (.build [(.lst [] .nil), (.sc (.map none)), (.lst [] .nil), (.lst [] .nil), (.lst [] .nil), (.lst [] .nil)] [(0, 1, (.r 20)), (1, 1, (.r 21)), (2, 1, (.r 24)), (5, 1, (.r 27))]), []⟩
    (.one ⟨(some 29), none, .op (.box (.r 28)), []⟩
    (.one ⟨(some 5), none, .op (.move (.r 29)), []⟩
    (.nil))))))
    (.one ⟨(some 27), none, .op (.mkSlice 2 16 [(i64 0), (i64 0)] (.r 26) (.r 26)), []⟩
    (.one ⟨(some 21), none, .op (.mkMap), []⟩
    (.one ⟨(some 28), none, .op (.build [(.lst [] .nil), (.sc (.map none)), (.lst [] .nil), (.lst [] .nil), (.lst [] .nil), (.lst [] .nil)] [(0, 1, (.r 20)), (1, 1, (.r 21)), (2, 1, (.r 24)), (5, 1, (.r 27))]), []⟩
    (.one ⟨(some 29), none, .op (.box (.r 28)), []⟩
    (.one ⟨(some 5), none, .op (.move (.r 29)), []⟩
    (.nil))))))))
    (.both
    (.one ⟨(some 21), none, .op (.mkMap), []⟩
    (.both
    (.one ⟨(some 20), none, .call (.k (.clos 36 [])) [(.r 19)], []⟩
    (.one ⟨(some 27), none, .op (.mkSlice 2 16 [(i64 0), (i64 0)] (.r 26) (.r 26)), []⟩
    (.one ⟨(some 28), none, .op (.build [(.lst [] .nil), (.sc (.map none)), (.lst [] .nil), (.lst [] .nil), (.lst [] .nil), (.lst [] .nil)] [(0, 1, (.r 20)), (1, 1, (.r 21)), (2, 1, (.r 24)), (5, 1, (.r 27))]), []⟩
    (.one ⟨(some 29), none, .op (.box (.r 28)), []⟩
    (.one ⟨(some 5), none, .op (.move (.r 29)), []⟩
    (.nil))))))
    (.one ⟨(some 27), none, .op (.mkSlice 2 16 [(i64 0), (i64 0)] (.r 26) (.r 26)), []⟩
    (.one ⟨(some 20), none, .call (.k (.clos 36 [])) [(.r 19)], []⟩
    (.one ⟨(some 28), none, .op (.build [(.lst [] .nil), (.sc (.map none)), (.lst [] .nil), (.lst [] .nil), (.lst [] .nil), (.lst [] .nil)] [(0, 1, (.r 20)), (1, 1, (.r 21)), (2, 1, (.r 24)), (5, 1, (.r 27))]), []⟩
    (.one ⟨(some 29), none, .op (.box (.r 28)), []⟩
    (.one ⟨(some 5), none, .op (.move (.r 29)), []⟩
    (.nil))))))))
    (.one ⟨(some 27), none, .op (.mkSlice 2 16 [(i64 0), (i64 0)] (.r 26) (.r 26)), []⟩
    (.both
    (.one ⟨(some 20), none, .call (.k (.clos 36 [])) [(.r 19)], []⟩
    (.one ⟨(some 21), none, .op (.mkMap), []⟩
    (.one ⟨(some 28), none, .op (.build [(.lst [] .nil), (.sc (.map none)), (.lst [] .nil), (.lst [] .nil), (.lst [] .nil), (.lst [] .nil)] [(0, 1, (.r 20)), (1, 1, (.r 21)), (2, 1, (.r 24)), (5, 1, (.r 27))]), []⟩
    (.one ⟨(some 29), none, .op (.box (.r 28)), []⟩
    (.one ⟨(some 5), none, .op (.move (.r 29)), []⟩
    (.nil))))))
    (.one ⟨(some 21), none, .op (.mkMap), []⟩
    (.one ⟨(some 20), none, .call (.k (.clos 36 [])) [(.r 19)], []⟩
    (.one ⟨(some 28), none, .op (.build [(.lst [] .nil), (.sc (.map none)), (.lst [] .nil), (.lst [] .nil), (.lst [] .nil), (.lst [] .nil)] [(0, 1, (.r 20)), (1, 1, (.r 21)), (2, 1, (.r 24)), (5, 1, (.r 27))]), []⟩
    (.one ⟨(some 29), none, .op (.box (.r 28)), []⟩
    (.one ⟨(some 5), none, .op (.move (.r 29)), []⟩
    (.nil)))))))))))
    (.one ⟨(some 27), none, .op (.mkSlice 2 16 [(i64 0), (i64 0)] (.r 26) (.r 26)), []⟩
    (.both
    (.one ⟨(some 20), none, .call (.k (.clos 36 [])) [(.r 19)], []⟩
    (.both
    (.one ⟨(some 21), none, .op (.mkMap), []⟩
    (.one ⟨(some 24), none, .op (.mkSlice 1 24 [(.lst [] .nil)] (.r 23) (.r 23)), []⟩
    (.one ⟨(some 28), none, .op (.build [(.lst [] .nil), (.sc (.map none)), (.lst [] .nil), (.lst [] .nil), (.lst [] .nil), (.lst [] .nil)] [(0, 1, (.r 20)), (1, 1, (.r 21)), (2, 1, (.r 24)), (5, 1, (.r 27))]), []⟩
    (.one ⟨(some 29), none, .op (.box (.r 28)), []⟩
    (.one ⟨(some 5), none, .op (.move (.r 29)), []⟩
    (.nil))))))
    (.one ⟨(some 24), none, .op (.mkSlice 1 24 [(.lst [] .nil)] (.r 23) (.r 23)), []⟩
    (.one ⟨(some 21), none, .op (.mkMap), []⟩
    (.one ⟨(some 28), none, .op (.build [(.lst [] .nil), (.sc (.map none)), (.lst [] .nil), (.lst [] .nil), (.lst [] .nil), (.lst [] .nil)] [(0, 1, (.r 20)), (1, 1, (.r 21)), (2, 1, (.r 24)), (5, 1, (.r 27))]), []⟩
    (.one ⟨(some 29), none, .op (.box (.r 28)), []⟩
    (.one ⟨(some 5), none, .op (.move (.r 29)), []⟩
    (.nil))))))))
    (.both
    (.one ⟨(some 21), none, .op (.mkMap), []⟩
    (.both
    (.one ⟨(some 20), none, .call (.k (.clos 36 [])) [(.r 19)], []⟩
    (.one ⟨(some 24), none, .op (.mkSlice 1 24 [(.lst [] .nil)] (.r 23) (.r 23)), []⟩
    (.one ⟨(some 28), none, .op (.build [(.lst [] .nil), (.sc (.map none)), (.lst [] .nil), (.lst [] .nil), (.lst [] .nil), (.lst [] .nil)] [(0, 1, (.r 20)), (1, 1, (.r 21)), (2, 1, (.r 24)), (5, 1, (.r 27))]), []⟩
    (.one ⟨(some 29), none, .op (.box (.r 28)), []⟩
    (.one ⟨(some 5), none, .op (.move (.r 29)), []⟩
    (.nil))))))
    (.one ⟨(some 24), none, .op (.mkSlice 1 24 [(.lst [] .nil)] (.r 23) (.r 23)), []⟩
    (.one ⟨(some 20), none, .call (.k (.clos 36 [])) [(.r 19)], []⟩
    (.one ⟨(some 28), none, .op (.build [(.lst [] .nil), (.sc (.map none)), (.lst [] .nil), (.lst [] .nil), (.lst [] .nil), (.lst [] .nil)] [(0, 1, (.r 20)), (1, 1, (.r 21)), (2, 1, (.r 24)), (5, 1, (.r 27))]), []⟩
    (.one ⟨(some 29), none, .op (.box (.r 28)), []⟩
    (.one ⟨(some 5), none, .op (.move (.r 29)), []⟩
    (.nil))))))))
    (.one ⟨(some 24), none, .op (.mkSlice 1 24 [(.lst [] .nil)] (.r 23) (.r 23)), []⟩
    (.both
    (.one ⟨(some 20), none, .call (.k (.clos 36 [])) [(.r 19)], []⟩
    (.one ⟨(some 21), none, .op (.mkMap), []⟩
    (.one ⟨(some 28), none, .op (.build [(.lst [] .nil), (.sc (.map none)), (.lst [] .nil), (.lst [] .nil), (.lst [] .nil), (.lst [] .nil)] [(0, 1, (.r 20)), (1, 1, (.r 21)), (2, 1, (.r 24)), (5, 1, (.r 27))]), []⟩
    (.one ⟨(some 29), none, .op (.box (.r 28)), []⟩
    (.one ⟨(some 5), none, .op (.move (.r 29)), []⟩
    (.nil))))))
    (.one ⟨(some 21), none, .op (.mkMap), []⟩
    (.one ⟨(some 20), none, .call (.k (.clos 36 [])) [(.r 19)], []⟩
    (.one ⟨(some 28), none, .op (.build [(.lst [] .nil), (.sc (.map none)), (.lst [] .nil), (.lst [] .nil), (.lst [] .nil), (.lst [] .nil)] [(0, 1, (.r 20)), (1, 1, (.r 21)), (2, 1, (.r 24)), (5, 1, (.r 27))]), []⟩
    (.one ⟨(some 29), none, .op (.box (.r 28)), []⟩
    (.one ⟨(some 5), none, .op (.move (.r 29)), []⟩
    (.nil))))))))))))))))))))
  (T)

def d8c (T : NCode) : NCode :=
  .seq (.seq (.ops [
    ⟨(some 30), none, .op (.move (.k (i64 0))), []⟩])
  (.block 0 (.loop (.seq (.ops [
    ⟨(some 31), none, .op (.bin .lss .other (.r 30) (.k (i64 5))), []⟩])
  (.seq (.cond (.r 31)
  (.skip)
  (.exit 0))
  (.seq (.block 1 (.seq (.ops [
    ⟨(some 32), none, .op (.move (.r 30)), []⟩,
    ⟨(some 6), none, .op (.move (.r 32)), []⟩])
  (.seq (.ops [
    ⟨(some 33), none, .op (.move (.r 0)), []⟩,
    ⟨(some 34), none, .op (.lenL (.r 33)), []⟩,
    ⟨(some 35), none, .op (.move (.k (i64 0))), []⟩])
  (.block 2 (.loop (.seq (.ops [
    ⟨(some 36), none, .op (.bin .lss .other (.r 35) (.r 34)), []⟩])
  (.seq (.cond (.r 36)
  (.skip)
  (.exit 2))
  (.seq (.block 3 (.seq (.ops [
    ⟨(some 37), none, .op (.move (.r 35)), []⟩,
    ⟨(some 7), none, .op (.move (.r 37)), []⟩])
  (.seq (.ops [
    ⟨(some 38), none, .op (.move (.r 5)), []⟩,
    ⟨(some 39), none, .op (.move (.r 6)), []⟩,
    ⟨(some 40), none, .op (.move (.r 7)), []⟩,
    ⟨(some 41), none, .call (.k (.clos 37 [])) [(.r 38), (.r 39), (.r 40)], []⟩,
    ⟨(some 8), none, .op (.move (.r 41)), []⟩])
  (.seq (.ops [
    ⟨(some 42), none, .op (.move (.r 8)), []⟩,
    ⟨(some 43), none, .op (.bin .neq .other (.r 42) (.k (i64 0))), []⟩])
  (.cond (.r 43)
  (.seq (.ops [
    ⟨(some 44), none, .op (.move (.r 7)), []⟩,
    ⟨(some 45), none, .op (.move (.r 8)), []⟩,
    ⟨(some 2), none, .op (.move (.k (.sc (.pointer none)))), []⟩,
    ⟨(some 3), none, .op (.move (.r 44)), []⟩,
    ⟨(some 4), none, .op (.move (.r 45)), []⟩])
  (.ret))
  (.skip))))))
  (.ops [
    ⟨(some 46), none, .op (.bin .add .other (.r 35) (.k (i64 1))), []⟩,
    ⟨(some 35), none, .op (.move (.r 46)), []⟩])))))))))
  (.ops [
    ⟨(some 47), none, .op (.bin .add .other (.r 30) (.k (i64 1))), []⟩,
    ⟨(some 30), none, .op (.move (.r 47)), []⟩])))))))
  (T)

def d8d (T : NCode) : NCode :=
  .seq (.seq (.ops [
    ⟨(some 48), none, .op (.move (.r 0)), []⟩,
    ⟨(some 49), none, .op (.lenL (.r 48)), []⟩,
    ⟨(some 50), none, .op (.move (.k (i64 0))), []⟩])
  (.block 4 (.loop (.seq (.ops [
    ⟨(some 51), none, .op (.bin .lss .other (.r 50) (.r 49)), []⟩])
  (.seq (.cond (.r 51)
  (.skip)
  (.exit 4))
  (.seq (.block 5 (.seq (.ops [
    ⟨(some 52), none, .op (.move (.r 50)), []⟩,
    ⟨(some 53), none, .op (.idxAddr 2 (.r 48) (.r 50)), []⟩,
    ⟨(some 54), none, .op (.load (some 2) (.r 53)), []⟩,
    ⟨(some 10), none, .op (.alloc [(.sc (.string ⟨#[]⟩)), (i64 0)]), []⟩,
    ⟨(some 9), none, .op (.move (.r 52)), []⟩,
    ⟨none, none, .op (.store 2 (.r 10) (.r 54)), []⟩])
  (.seq (.ops [
    ⟨(some 55), none, .op (.fieldAddr 1 (.r 10)), []⟩,
    ⟨(some 56), none, .op (.load none (.r 55)), []⟩,
    ⟨(some 57), none, .op (.bin .geq .other (.r 56) (.k (i64 0))), []⟩])
  (.cond (.r 57)
  (.ops [
    ⟨(some 58), none, .op (.move (.r 5)), []⟩,
    ⟨(some 59), none, .op (.nilCheck (.r 58)), []⟩,
    ⟨(some 60), none, .op (.fieldAddr 2 (.r 59)), []⟩,
    ⟨(some 61), none, .op (.load none (.r 60)), []⟩,
    ⟨(some 62), none, .op (.fieldAddr 1 (.r 10)), []⟩,
    ⟨(some 63), none, .op (.load none (.r 62)), []⟩,
    ⟨(some 64), none, .op (.move (.r 5)), []⟩,
    ⟨(some 65), none, .op (.nilCheck (.r 64)), []⟩,
    ⟨(some 66), none, .op (.fieldAddr 2 (.r 65)), []⟩,
    ⟨(some 67), none, .op (.load none (.r 66)), []⟩,
    ⟨(some 68), none, .op (.fieldAddr 1 (.r 10)), []⟩,
    ⟨(some 69), none, .op (.load none (.r 68)), []⟩,
    ⟨(some 70), none, .op (.idxAddr 1 (.r 67) (.r 69)), []⟩,
    ⟨(some 71), none, .op (.load none (.r 70)), []⟩,
    ⟨(some 72), none, .op (.move (.r 9)), []⟩,
    ⟨(some 73), none, .op (.buildSlice none [(i64 0)] 1 [(0, (.r 72))]), []⟩,
    ⟨(some 74), none, .op (.append true none 8 [(i64 0)] (.r 71) (.r 73)), [⟨61, none, .load none (.r 60)⟩, ⟨63, none, .load none (.r 62)⟩]⟩,
    ⟨(some 75), none, .op (.idxAddr 1 (.r 61) (.r 63)), []⟩,
    ⟨none, none, .op (.store 1 (.r 75) (.r 74)), []⟩])
  (.skip)))))
  (.ops [
    ⟨(some 76), none, .op (.bin .add .other (.r 50) (.k (i64 1))), []⟩,
    ⟨(some 50), none, .op (.move (.r 76)), []⟩])))))))
  (T)

def d8e : NCode :=
  .seq (.ops [
    ⟨(some 77), none, .op (.move (.r 5)), []⟩,
    ⟨(some 78), none, .call (.k (.clos 38 [])) [(.r 77)], []⟩])
  (.seq (.ops [
    ⟨(some 79), none, .op (.move (.r 5)), []⟩,
    ⟨(some 2), none, .op (.move (.r 79)), []⟩,
    ⟨(some 3), none, .op (.move (.k (i64 0))), []⟩,
    ⟨(some 4), none, .op (.move (.k (i64 0))), []⟩])
  (.ret))

theorem n_New : n8 = d8a (d8b (d8c (d8d d8e))) := by kernel_rfl

/-- A tree that is being made. -/
structure St (L : List Nd) (m0 m : Heap) (T N cN M K S : Nat) (r : List AV) (es : List (Value × AV)) : Prop where
  gT : get T m = some (.cells [.mref N 0 L.length cN, .mapp M, .mref K 0 L.length L.length, .lst [] .nil, .lst [] .nil, .mref S 0 L.length L.length])
  gN : get N m = some (.cells (nc L ++ r))
  gM : get M m = some (.amap es)
  gK : get K m = some (.cells (List.replicate L.length [AV.lst [] Own.nil]).flatten)
  gS : get S m = some (.cells (List.replicate L.length [AV.sc (Value.int IntKind.i64 0), AV.sc (Value.int IntKind.i64 0)]).flatten)
  nd : [T, N, M, K, S].Nodup
  new : ∀ x ∈ [T, N, M, K, S], x ∉ keys m0
  ext : Ext [] m0 m
def Made (L : List Nd) (y : AV) (m : Heap) : Cont := fun ρ m' => ∃ T N cN M K S r, St L m m' T N cN M K S r [] ∧ ρ 5 = .ptr T 0 ∧ ρ 0 = y
section
variable {L : List Nd} {m m' m0 : Heap} {T N cN M K S : Nat} {r : List AV} {es es2 : List (Value × AV)} {y : AV} {ρ : Regs} {Q E : AV → Heap → Prop} {Kn Kr : Cont} {Kx : Nat → Cont} {C : NCode}
theorem St.after (h : St L m0 m T N cN M K S r es) (he : Ext [] m m') : St L m0 m' T N cN M K S r es :=
  ⟨he _ _ h.gT (by simp), he _ _ h.gN (by simp), he _ _ h.gM (by simp), he _ _ h.gK (by simp), he _ _ h.gS (by simp), h.nd, h.new, h.ext.trans he⟩
theorem St.flds (h : St L m0 m T N cN M K S r es) : Flds L m T M es :=
  ⟨N, cN, _, r, h.gT, h.gN, h.gM, fun e => by
    have := h.nd
    simp [e] at this⟩
theorem St.set (h : St L m0 m T N cN M K S r es) : St L m0 (put M (.amap es2) m) T N cN M K S r es2 := by
  have hn := h.nd
  simp only [List.nodup_cons, List.mem_cons, List.not_mem_nil, or_false, not_or] at hn
  obtain ⟨⟨a1, a2, a3, a4⟩, ⟨b1, b2, b3⟩, ⟨c1, c2⟩, _⟩ := hn
  refine ⟨by rw [get_put_ne a2]; exact h.gT, by rw [get_put_ne b1]; exact h.gN, get_put h.gM, by rw [get_put_ne (fun e => c1 e.symm)]; exact h.gK, by rw [get_put_ne (fun e => c2 e.symm)]; exact h.gS, h.nd, h.new, ?_⟩
  exact h.ext.fresh (.put (S := [M]) (by simp)) fun i hi => .inr (by
    simp only [List.mem_singleton] at hi
    subst hi
    exact h.new _ (by simp))

set_option maxHeartbeats 4000000 in
/-- New memory, in whatever order. -/
theorem new_b (hI : Inp y L) (h0 : L ≠ []) (hl : L.length ≤ 32) (g0 : ρ 0 = y) (k : ∀ ρ' m', Made L y m ρ' m' → vc Try.prog E C Kn Kx Kr ρ' m') : vc Try.prog E (d8b C) Kn Kx Kr ρ m := by
  have hL : LenIs y L.length := by
    obtain ⟨o, rfl, _⟩ := hI
    exact .inl ⟨_, _, rfl, by simp⟩
  have hz1 : (L.length : Int) * ((24 : Nat) : Int) ≤ 140737488355328 := by omega
  have hz2 : (L.length : Int) * ((16 : Nat) : Int) ≤ 140737488355328 := by omega
  have hz3 : (L.length : Int) ≤ (maxLen : Int) := by rw [maxLen_e]; omega
  have em : Ext [] m m := .rfl'
  have hz0 : Int.toNat (L.length : Int) = L.length := Int.toNat_natCast _
  simp only [d8b, wf_preprocess, ↓reduceIte, Nat.reduceEqDiff, reduceCtorEq, Nat.reduceAdd, Nat.reduceMul, Nat.reduceLeDiff, Nat.reduceLT, Nat.reduceSub, Int.reduceToNat, Int.reduceNeg, Int.reduceAdd, Int.reduceSub, Int.reduceMul, Int.reduceEq, Int.reduceLT, Int.reduceLE, Int.reduceNe, forall_const, forall_eq', forall_eq, List.forall_mem_cons, List.not_mem_nil]
  refine tree_i (Made L y m) ?_ k
  simp only [onLst_len hL, hz1, hz2, hz3, Int.natCast_nonneg, Int.le_refl, Int.toNat_natCast, g0, wf_preprocess, ↓reduceIte, Nat.reduceEqDiff, reduceCtorEq, Nat.reduceAdd, Nat.reduceMul, Nat.reduceLeDiff, Nat.reduceLT, Nat.reduceSub, Int.reduceToNat, Int.reduceNeg, Int.reduceAdd, Int.reduceSub, Int.reduceMul, Int.reduceEq, Int.reduceLT, Int.reduceLE, Int.reduceNe, forall_const, forall_eq', forall_eq, List.forall_mem_cons, List.not_mem_nil]
  refine ⟨stop_i ?_, stop_i ?_⟩
  · simp only [onLst_len hL, hz1, hz2, hz3, Int.natCast_nonneg, Int.le_refl, Int.toNat_natCast, g0, wf_preprocess, ↓reduceIte, Nat.reduceEqDiff, reduceCtorEq, Nat.reduceAdd, Nat.reduceMul, Nat.reduceLeDiff, Nat.reduceLT, Nat.reduceSub, Int.reduceToNat, Int.reduceNeg, Int.reduceAdd, Int.reduceSub, Int.reduceMul, Int.reduceEq, Int.reduceLT, Int.reduceLE, Int.reduceNe, forall_const, forall_eq', forall_eq, List.forall_mem_cons, List.not_mem_nil]
    refine call_i (CloneN_s hI h0 (by omega) fun N cN r mN gN xN nN => ?_)
    simp only [onLst_len hL, hz1, hz2, hz3, Int.natCast_nonneg, Int.le_refl, Int.toNat_natCast, g0, wf_preprocess, ↓reduceIte, Nat.reduceEqDiff, reduceCtorEq, Nat.reduceAdd, Nat.reduceMul, Nat.reduceLeDiff, Nat.reduceLT, Nat.reduceSub, Int.reduceToNat, Int.reduceNeg, Int.reduceAdd, Int.reduceSub, Int.reduceMul, Int.reduceEq, Int.reduceLT, Int.reduceLE, Int.reduceNe, forall_const, forall_eq', forall_eq, List.forall_mem_cons, List.not_mem_nil]
    have nN0 : N ∉ keys m := Ext.isNew em nN (by simp)
    have emN : Ext [] m mN := em.trans xN
    refine ⟨stop_i ?_, stop_i ?_⟩
    · simp only [onLst_len hL, hz1, hz2, hz3, Int.natCast_nonneg, Int.le_refl, Int.toNat_natCast, g0, wf_preprocess, ↓reduceIte, Nat.reduceEqDiff, reduceCtorEq, Nat.reduceAdd, Nat.reduceMul, Nat.reduceLeDiff, Nat.reduceLT, Nat.reduceSub, Int.reduceToNat, Int.reduceNeg, Int.reduceAdd, Int.reduceSub, Int.reduceMul, Int.reduceEq, Int.reduceLT, Int.reduceLE, Int.reduceNe, forall_const, forall_eq', forall_eq, List.forall_mem_cons, List.not_mem_nil]
      refine fresh_i fun M nM => ?_
      try rw [hz0]
      have gM : get M ((M, AObj.amap []) :: mN) = some (AObj.amap []) := get_new
      have xM : Ext [] mN ((M, AObj.amap []) :: mN) := .new nM
      simp only [onLst_len hL, hz1, hz2, hz3, Int.natCast_nonneg, Int.le_refl, Int.toNat_natCast, g0, wf_preprocess, ↓reduceIte, Nat.reduceEqDiff, reduceCtorEq, Nat.reduceAdd, Nat.reduceMul, Nat.reduceLeDiff, Nat.reduceLT, Nat.reduceSub, Int.reduceToNat, Int.reduceNeg, Int.reduceAdd, Int.reduceSub, Int.reduceMul, Int.reduceEq, Int.reduceLT, Int.reduceLE, Int.reduceNe, forall_const, forall_eq', forall_eq, List.forall_mem_cons, List.not_mem_nil]
      generalize ((M, AObj.amap []) :: mN) = mNM at *
      have dMN : M ≠ N := new_ne gN nM
      have gN := xM _ _ gN (by simp)
      have nM0 : M ∉ keys m := Ext.isNew emN nM (by simp)
      have emNM : Ext [] m mNM := emN.trans xM
      refine ⟨stop_i ?_, stop_i ?_⟩
      · simp only [onLst_len hL, hz1, hz2, hz3, Int.natCast_nonneg, Int.le_refl, Int.toNat_natCast, g0, wf_preprocess, ↓reduceIte, Nat.reduceEqDiff, reduceCtorEq, Nat.reduceAdd, Nat.reduceMul, Nat.reduceLeDiff, Nat.reduceLT, Nat.reduceSub, Int.reduceToNat, Int.reduceNeg, Int.reduceAdd, Int.reduceSub, Int.reduceMul, Int.reduceEq, Int.reduceLT, Int.reduceLE, Int.reduceNe, forall_const, forall_eq', forall_eq, List.forall_mem_cons, List.not_mem_nil]
        refine fresh_i fun K nK => ?_
        try rw [hz0]
        have gK : get K ((K, AObj.cells (List.replicate L.length [AV.lst [] Own.nil]).flatten) :: mNM) = some (AObj.cells (List.replicate L.length [AV.lst [] Own.nil]).flatten) := get_new
        have xK : Ext [] mNM ((K, AObj.cells (List.replicate L.length [AV.lst [] Own.nil]).flatten) :: mNM) := .new nK
        simp only [onLst_len hL, hz1, hz2, hz3, Int.natCast_nonneg, Int.le_refl, Int.toNat_natCast, g0, wf_preprocess, ↓reduceIte, Nat.reduceEqDiff, reduceCtorEq, Nat.reduceAdd, Nat.reduceMul, Nat.reduceLeDiff, Nat.reduceLT, Nat.reduceSub, Int.reduceToNat, Int.reduceNeg, Int.reduceAdd, Int.reduceSub, Int.reduceMul, Int.reduceEq, Int.reduceLT, Int.reduceLE, Int.reduceNe, forall_const, forall_eq', forall_eq, List.forall_mem_cons, List.not_mem_nil]
        generalize ((K, AObj.cells (List.replicate L.length [AV.lst [] Own.nil]).flatten) :: mNM) = mNMK at *
        have dKN : K ≠ N := new_ne gN nK
        have dKM : K ≠ M := new_ne gM nK
        have gN := xK _ _ gN (by simp)
        have gM := xK _ _ gM (by simp)
        have nK0 : K ∉ keys m := Ext.isNew emNM nK (by simp)
        have emNMK : Ext [] m mNMK := emNM.trans xK
        refine fresh_i fun S nS => ?_
        try rw [hz0]
        have gS : get S ((S, AObj.cells (List.replicate L.length [AV.sc (Value.int IntKind.i64 0), AV.sc (Value.int IntKind.i64 0)]).flatten) :: mNMK) = some (AObj.cells (List.replicate L.length [AV.sc (Value.int IntKind.i64 0), AV.sc (Value.int IntKind.i64 0)]).flatten) := get_new
        have xS : Ext [] mNMK ((S, AObj.cells (List.replicate L.length [AV.sc (Value.int IntKind.i64 0), AV.sc (Value.int IntKind.i64 0)]).flatten) :: mNMK) := .new nS
        simp only [onLst_len hL, hz1, hz2, hz3, Int.natCast_nonneg, Int.le_refl, Int.toNat_natCast, g0, wf_preprocess, ↓reduceIte, Nat.reduceEqDiff, reduceCtorEq, Nat.reduceAdd, Nat.reduceMul, Nat.reduceLeDiff, Nat.reduceLT, Nat.reduceSub, Int.reduceToNat, Int.reduceNeg, Int.reduceAdd, Int.reduceSub, Int.reduceMul, Int.reduceEq, Int.reduceLT, Int.reduceLE, Int.reduceNe, forall_const, forall_eq', forall_eq, List.forall_mem_cons, List.not_mem_nil]
        generalize ((S, AObj.cells (List.replicate L.length [AV.sc (Value.int IntKind.i64 0), AV.sc (Value.int IntKind.i64 0)]).flatten) :: mNMK) = mNMKS at *
        have dSN : S ≠ N := new_ne gN nS
        have dSM : S ≠ M := new_ne gM nS
        have dSK : S ≠ K := new_ne gK nS
        have gN := xS _ _ gN (by simp)
        have gM := xS _ _ gM (by simp)
        have gK := xS _ _ gK (by simp)
        have nS0 : S ∉ keys m := Ext.isNew emNMK nS (by simp)
        have emNMKS : Ext [] m mNMKS := emNMK.trans xS
        refine fresh_i fun T nT => ?_
        simp only [wf_preprocess, ↓reduceIte, Nat.reduceEqDiff, reduceCtorEq, Nat.reduceAdd, Nat.reduceMul, Nat.reduceLeDiff, Nat.reduceLT, Nat.reduceSub, Int.reduceToNat, Int.reduceNeg, Int.reduceAdd, Int.reduceSub, Int.reduceMul, Int.reduceEq, Int.reduceLT, Int.reduceLE, Int.reduceNe, forall_const, forall_eq', forall_eq, List.forall_mem_cons, List.not_mem_nil]
        have eT : Ext [] mNMKS ((T, _) :: mNMKS) := .new (ob := .cells [.mref N 0 L.length cN, .mapp M, .mref K 0 L.length L.length, .lst [] .nil, .lst [] .nil, .mref S 0 L.length L.length]) nT
        have dTN : T ≠ N := new_ne gN nT
        have dTM : T ≠ M := new_ne gM nT
        have dTK : T ≠ K := new_ne gK nT
        have dTS : T ≠ S := new_ne gS nT
        refine ⟨T, N, cN, M, K, S, r, ⟨get_new, eT _ _ gN (by simp), eT _ _ gM (by simp), eT _ _ gK (by simp), eT _ _ gS (by simp), ?_, ?_, emNMKS.trans eT⟩, ?_, ?_⟩
        · simp only [List.nodup_cons, List.mem_cons, List.not_mem_nil, or_false, not_or, not_false_eq_true, and_true, List.nodup_nil, true_and]
          exact ⟨⟨dTN, dTM, dTK, dTS⟩, ⟨dMN.symm, dKN.symm, dSN.symm⟩, ⟨dKM.symm, dSM.symm⟩, dSK.symm⟩
        · intro x hx
          simp only [List.mem_cons, List.not_mem_nil, or_false] at hx
          rcases hx with rfl | rfl | rfl | rfl | rfl
          · exact Ext.isNew emNMKS nT (by simp)
          · exact nN0
          · exact nM0
          · exact nK0
          · exact nS0
        · simp only [wf_preprocess, ↓reduceIte, Nat.reduceEqDiff, reduceCtorEq, Nat.reduceAdd, Nat.reduceMul, Nat.reduceLeDiff, Nat.reduceLT, Nat.reduceSub, Int.reduceToNat, Int.reduceNeg, Int.reduceAdd, Int.reduceSub, Int.reduceMul, Int.reduceEq, Int.reduceLT, Int.reduceLE, Int.reduceNe, forall_const, forall_eq', forall_eq, List.forall_mem_cons, List.not_mem_nil]
        · simp only [g0, wf_preprocess, ↓reduceIte, Nat.reduceEqDiff, reduceCtorEq, Nat.reduceAdd, Nat.reduceMul, Nat.reduceLeDiff, Nat.reduceLT, Nat.reduceSub, Int.reduceToNat, Int.reduceNeg, Int.reduceAdd, Int.reduceSub, Int.reduceMul, Int.reduceEq, Int.reduceLT, Int.reduceLE, Int.reduceNe, forall_const, forall_eq', forall_eq, List.forall_mem_cons, List.not_mem_nil]
      · simp only [onLst_len hL, hz1, hz2, hz3, Int.natCast_nonneg, Int.le_refl, Int.toNat_natCast, g0, wf_preprocess, ↓reduceIte, Nat.reduceEqDiff, reduceCtorEq, Nat.reduceAdd, Nat.reduceMul, Nat.reduceLeDiff, Nat.reduceLT, Nat.reduceSub, Int.reduceToNat, Int.reduceNeg, Int.reduceAdd, Int.reduceSub, Int.reduceMul, Int.reduceEq, Int.reduceLT, Int.reduceLE, Int.reduceNe, forall_const, forall_eq', forall_eq, List.forall_mem_cons, List.not_mem_nil]
        refine fresh_i fun S nS => ?_
        try rw [hz0]
        have gS : get S ((S, AObj.cells (List.replicate L.length [AV.sc (Value.int IntKind.i64 0), AV.sc (Value.int IntKind.i64 0)]).flatten) :: mNM) = some (AObj.cells (List.replicate L.length [AV.sc (Value.int IntKind.i64 0), AV.sc (Value.int IntKind.i64 0)]).flatten) := get_new
        have xS : Ext [] mNM ((S, AObj.cells (List.replicate L.length [AV.sc (Value.int IntKind.i64 0), AV.sc (Value.int IntKind.i64 0)]).flatten) :: mNM) := .new nS
        simp only [onLst_len hL, hz1, hz2, hz3, Int.natCast_nonneg, Int.le_refl, Int.toNat_natCast, g0, wf_preprocess, ↓reduceIte, Nat.reduceEqDiff, reduceCtorEq, Nat.reduceAdd, Nat.reduceMul, Nat.reduceLeDiff, Nat.reduceLT, Nat.reduceSub, Int.reduceToNat, Int.reduceNeg, Int.reduceAdd, Int.reduceSub, Int.reduceMul, Int.reduceEq, Int.reduceLT, Int.reduceLE, Int.reduceNe, forall_const, forall_eq', forall_eq, List.forall_mem_cons, List.not_mem_nil]
        generalize ((S, AObj.cells (List.replicate L.length [AV.sc (Value.int IntKind.i64 0), AV.sc (Value.int IntKind.i64 0)]).flatten) :: mNM) = mNMS at *
        have dSN : S ≠ N := new_ne gN nS
        have dSM : S ≠ M := new_ne gM nS
        have gN := xS _ _ gN (by simp)
        have gM := xS _ _ gM (by simp)
        have nS0 : S ∉ keys m := Ext.isNew emNM nS (by simp)
        have emNMS : Ext [] m mNMS := emNM.trans xS
        refine fresh_i fun K nK => ?_
        try rw [hz0]
        have gK : get K ((K, AObj.cells (List.replicate L.length [AV.lst [] Own.nil]).flatten) :: mNMS) = some (AObj.cells (List.replicate L.length [AV.lst [] Own.nil]).flatten) := get_new
        have xK : Ext [] mNMS ((K, AObj.cells (List.replicate L.length [AV.lst [] Own.nil]).flatten) :: mNMS) := .new nK
        simp only [onLst_len hL, hz1, hz2, hz3, Int.natCast_nonneg, Int.le_refl, Int.toNat_natCast, g0, wf_preprocess, ↓reduceIte, Nat.reduceEqDiff, reduceCtorEq, Nat.reduceAdd, Nat.reduceMul, Nat.reduceLeDiff, Nat.reduceLT, Nat.reduceSub, Int.reduceToNat, Int.reduceNeg, Int.reduceAdd, Int.reduceSub, Int.reduceMul, Int.reduceEq, Int.reduceLT, Int.reduceLE, Int.reduceNe, forall_const, forall_eq', forall_eq, List.forall_mem_cons, List.not_mem_nil]
        generalize ((K, AObj.cells (List.replicate L.length [AV.lst [] Own.nil]).flatten) :: mNMS) = mNMSK at *
        have dKN : K ≠ N := new_ne gN nK
        have dKM : K ≠ M := new_ne gM nK
        have dKS : K ≠ S := new_ne gS nK
        have gN := xK _ _ gN (by simp)
        have gM := xK _ _ gM (by simp)
        have gS := xK _ _ gS (by simp)
        have nK0 : K ∉ keys m := Ext.isNew emNMS nK (by simp)
        have emNMSK : Ext [] m mNMSK := emNMS.trans xK
        refine fresh_i fun T nT => ?_
        simp only [wf_preprocess, ↓reduceIte, Nat.reduceEqDiff, reduceCtorEq, Nat.reduceAdd, Nat.reduceMul, Nat.reduceLeDiff, Nat.reduceLT, Nat.reduceSub, Int.reduceToNat, Int.reduceNeg, Int.reduceAdd, Int.reduceSub, Int.reduceMul, Int.reduceEq, Int.reduceLT, Int.reduceLE, Int.reduceNe, forall_const, forall_eq', forall_eq, List.forall_mem_cons, List.not_mem_nil]
        have eT : Ext [] mNMSK ((T, _) :: mNMSK) := .new (ob := .cells [.mref N 0 L.length cN, .mapp M, .mref K 0 L.length L.length, .lst [] .nil, .lst [] .nil, .mref S 0 L.length L.length]) nT
        have dTN : T ≠ N := new_ne gN nT
        have dTM : T ≠ M := new_ne gM nT
        have dTS : T ≠ S := new_ne gS nT
        have dTK : T ≠ K := new_ne gK nT
        refine ⟨T, N, cN, M, K, S, r, ⟨get_new, eT _ _ gN (by simp), eT _ _ gM (by simp), eT _ _ gK (by simp), eT _ _ gS (by simp), ?_, ?_, emNMSK.trans eT⟩, ?_, ?_⟩
        · simp only [List.nodup_cons, List.mem_cons, List.not_mem_nil, or_false, not_or, not_false_eq_true, and_true, List.nodup_nil, true_and]
          exact ⟨⟨dTN, dTM, dTK, dTS⟩, ⟨dMN.symm, dKN.symm, dSN.symm⟩, ⟨dKM.symm, dSM.symm⟩, dKS⟩
        · intro x hx
          simp only [List.mem_cons, List.not_mem_nil, or_false] at hx
          rcases hx with rfl | rfl | rfl | rfl | rfl
          · exact Ext.isNew emNMSK nT (by simp)
          · exact nN0
          · exact nM0
          · exact nK0
          · exact nS0
        · simp only [wf_preprocess, ↓reduceIte, Nat.reduceEqDiff, reduceCtorEq, Nat.reduceAdd, Nat.reduceMul, Nat.reduceLeDiff, Nat.reduceLT, Nat.reduceSub, Int.reduceToNat, Int.reduceNeg, Int.reduceAdd, Int.reduceSub, Int.reduceMul, Int.reduceEq, Int.reduceLT, Int.reduceLE, Int.reduceNe, forall_const, forall_eq', forall_eq, List.forall_mem_cons, List.not_mem_nil]
        · simp only [g0, wf_preprocess, ↓reduceIte, Nat.reduceEqDiff, reduceCtorEq, Nat.reduceAdd, Nat.reduceMul, Nat.reduceLeDiff, Nat.reduceLT, Nat.reduceSub, Int.reduceToNat, Int.reduceNeg, Int.reduceAdd, Int.reduceSub, Int.reduceMul, Int.reduceEq, Int.reduceLT, Int.reduceLE, Int.reduceNe, forall_const, forall_eq', forall_eq, List.forall_mem_cons, List.not_mem_nil]
    · simp only [wf_preprocess, ↓reduceIte, Nat.reduceEqDiff, reduceCtorEq, Nat.reduceAdd, Nat.reduceMul, Nat.reduceLeDiff, Nat.reduceLT, Nat.reduceSub, Int.reduceToNat, Int.reduceNeg, Int.reduceAdd, Int.reduceSub, Int.reduceMul, Int.reduceEq, Int.reduceLT, Int.reduceLE, Int.reduceNe, forall_const, forall_eq', forall_eq, List.forall_mem_cons, List.not_mem_nil]
      refine ⟨stop_i ?_, stop_i ?_⟩
      · simp only [onLst_len hL, hz1, hz2, hz3, Int.natCast_nonneg, Int.le_refl, Int.toNat_natCast, g0, wf_preprocess, ↓reduceIte, Nat.reduceEqDiff, reduceCtorEq, Nat.reduceAdd, Nat.reduceMul, Nat.reduceLeDiff, Nat.reduceLT, Nat.reduceSub, Int.reduceToNat, Int.reduceNeg, Int.reduceAdd, Int.reduceSub, Int.reduceMul, Int.reduceEq, Int.reduceLT, Int.reduceLE, Int.reduceNe, forall_const, forall_eq', forall_eq, List.forall_mem_cons, List.not_mem_nil]
        refine fresh_i fun K nK => ?_
        try rw [hz0]
        have gK : get K ((K, AObj.cells (List.replicate L.length [AV.lst [] Own.nil]).flatten) :: mN) = some (AObj.cells (List.replicate L.length [AV.lst [] Own.nil]).flatten) := get_new
        have xK : Ext [] mN ((K, AObj.cells (List.replicate L.length [AV.lst [] Own.nil]).flatten) :: mN) := .new nK
        simp only [onLst_len hL, hz1, hz2, hz3, Int.natCast_nonneg, Int.le_refl, Int.toNat_natCast, g0, wf_preprocess, ↓reduceIte, Nat.reduceEqDiff, reduceCtorEq, Nat.reduceAdd, Nat.reduceMul, Nat.reduceLeDiff, Nat.reduceLT, Nat.reduceSub, Int.reduceToNat, Int.reduceNeg, Int.reduceAdd, Int.reduceSub, Int.reduceMul, Int.reduceEq, Int.reduceLT, Int.reduceLE, Int.reduceNe, forall_const, forall_eq', forall_eq, List.forall_mem_cons, List.not_mem_nil]
        generalize ((K, AObj.cells (List.replicate L.length [AV.lst [] Own.nil]).flatten) :: mN) = mNK at *
        have dKN : K ≠ N := new_ne gN nK
        have gN := xK _ _ gN (by simp)
        have nK0 : K ∉ keys m := Ext.isNew emN nK (by simp)
        have emNK : Ext [] m mNK := emN.trans xK
        refine ⟨stop_i ?_, stop_i ?_⟩
        · simp only [onLst_len hL, hz1, hz2, hz3, Int.natCast_nonneg, Int.le_refl, Int.toNat_natCast, g0, wf_preprocess, ↓reduceIte, Nat.reduceEqDiff, reduceCtorEq, Nat.reduceAdd, Nat.reduceMul, Nat.reduceLeDiff, Nat.reduceLT, Nat.reduceSub, Int.reduceToNat, Int.reduceNeg, Int.reduceAdd, Int.reduceSub, Int.reduceMul, Int.reduceEq, Int.reduceLT, Int.reduceLE, Int.reduceNe, forall_const, forall_eq', forall_eq, List.forall_mem_cons, List.not_mem_nil]
          refine fresh_i fun M nM => ?_
          try rw [hz0]
          have gM : get M ((M, AObj.amap []) :: mNK) = some (AObj.amap []) := get_new
          have xM : Ext [] mNK ((M, AObj.amap []) :: mNK) := .new nM
          simp only [onLst_len hL, hz1, hz2, hz3, Int.natCast_nonneg, Int.le_refl, Int.toNat_natCast, g0, wf_preprocess, ↓reduceIte, Nat.reduceEqDiff, reduceCtorEq, Nat.reduceAdd, Nat.reduceMul, Nat.reduceLeDiff, Nat.reduceLT, Nat.reduceSub, Int.reduceToNat, Int.reduceNeg, Int.reduceAdd, Int.reduceSub, Int.reduceMul, Int.reduceEq, Int.reduceLT, Int.reduceLE, Int.reduceNe, forall_const, forall_eq', forall_eq, List.forall_mem_cons, List.not_mem_nil]
          generalize ((M, AObj.amap []) :: mNK) = mNKM at *
          have dMN : M ≠ N := new_ne gN nM
          have dMK : M ≠ K := new_ne gK nM
          have gN := xM _ _ gN (by simp)
          have gK := xM _ _ gK (by simp)
          have nM0 : M ∉ keys m := Ext.isNew emNK nM (by simp)
          have emNKM : Ext [] m mNKM := emNK.trans xM
          refine fresh_i fun S nS => ?_
          try rw [hz0]
          have gS : get S ((S, AObj.cells (List.replicate L.length [AV.sc (Value.int IntKind.i64 0), AV.sc (Value.int IntKind.i64 0)]).flatten) :: mNKM) = some (AObj.cells (List.replicate L.length [AV.sc (Value.int IntKind.i64 0), AV.sc (Value.int IntKind.i64 0)]).flatten) := get_new
          have xS : Ext [] mNKM ((S, AObj.cells (List.replicate L.length [AV.sc (Value.int IntKind.i64 0), AV.sc (Value.int IntKind.i64 0)]).flatten) :: mNKM) := .new nS
          simp only [onLst_len hL, hz1, hz2, hz3, Int.natCast_nonneg, Int.le_refl, Int.toNat_natCast, g0, wf_preprocess, ↓reduceIte, Nat.reduceEqDiff, reduceCtorEq, Nat.reduceAdd, Nat.reduceMul, Nat.reduceLeDiff, Nat.reduceLT, Nat.reduceSub, Int.reduceToNat, Int.reduceNeg, Int.reduceAdd, Int.reduceSub, Int.reduceMul, Int.reduceEq, Int.reduceLT, Int.reduceLE, Int.reduceNe, forall_const, forall_eq', forall_eq, List.forall_mem_cons, List.not_mem_nil]
          generalize ((S, AObj.cells (List.replicate L.length [AV.sc (Value.int IntKind.i64 0), AV.sc (Value.int IntKind.i64 0)]).flatten) :: mNKM) = mNKMS at *
          have dSN : S ≠ N := new_ne gN nS
          have dSK : S ≠ K := new_ne gK nS
          have dSM : S ≠ M := new_ne gM nS
          have gN := xS _ _ gN (by simp)
          have gK := xS _ _ gK (by simp)
          have gM := xS _ _ gM (by simp)
          have nS0 : S ∉ keys m := Ext.isNew emNKM nS (by simp)
          have emNKMS : Ext [] m mNKMS := emNKM.trans xS
          refine fresh_i fun T nT => ?_
          simp only [wf_preprocess, ↓reduceIte, Nat.reduceEqDiff, reduceCtorEq, Nat.reduceAdd, Nat.reduceMul, Nat.reduceLeDiff, Nat.reduceLT, Nat.reduceSub, Int.reduceToNat, Int.reduceNeg, Int.reduceAdd, Int.reduceSub, Int.reduceMul, Int.reduceEq, Int.reduceLT, Int.reduceLE, Int.reduceNe, forall_const, forall_eq', forall_eq, List.forall_mem_cons, List.not_mem_nil]
          have eT : Ext [] mNKMS ((T, _) :: mNKMS) := .new (ob := .cells [.mref N 0 L.length cN, .mapp M, .mref K 0 L.length L.length, .lst [] .nil, .lst [] .nil, .mref S 0 L.length L.length]) nT
          have dTN : T ≠ N := new_ne gN nT
          have dTK : T ≠ K := new_ne gK nT
          have dTM : T ≠ M := new_ne gM nT
          have dTS : T ≠ S := new_ne gS nT
          refine ⟨T, N, cN, M, K, S, r, ⟨get_new, eT _ _ gN (by simp), eT _ _ gM (by simp), eT _ _ gK (by simp), eT _ _ gS (by simp), ?_, ?_, emNKMS.trans eT⟩, ?_, ?_⟩
          · simp only [List.nodup_cons, List.mem_cons, List.not_mem_nil, or_false, not_or, not_false_eq_true, and_true, List.nodup_nil, true_and]
            exact ⟨⟨dTN, dTM, dTK, dTS⟩, ⟨dMN.symm, dKN.symm, dSN.symm⟩, ⟨dMK, dSM.symm⟩, dSK.symm⟩
          · intro x hx
            simp only [List.mem_cons, List.not_mem_nil, or_false] at hx
            rcases hx with rfl | rfl | rfl | rfl | rfl
            · exact Ext.isNew emNKMS nT (by simp)
            · exact nN0
            · exact nM0
            · exact nK0
            · exact nS0
          · simp only [wf_preprocess, ↓reduceIte, Nat.reduceEqDiff, reduceCtorEq, Nat.reduceAdd, Nat.reduceMul, Nat.reduceLeDiff, Nat.reduceLT, Nat.reduceSub, Int.reduceToNat, Int.reduceNeg, Int.reduceAdd, Int.reduceSub, Int.reduceMul, Int.reduceEq, Int.reduceLT, Int.reduceLE, Int.reduceNe, forall_const, forall_eq', forall_eq, List.forall_mem_cons, List.not_mem_nil]
          · simp only [g0, wf_preprocess, ↓reduceIte, Nat.reduceEqDiff, reduceCtorEq, Nat.reduceAdd, Nat.reduceMul, Nat.reduceLeDiff, Nat.reduceLT, Nat.reduceSub, Int.reduceToNat, Int.reduceNeg, Int.reduceAdd, Int.reduceSub, Int.reduceMul, Int.reduceEq, Int.reduceLT, Int.reduceLE, Int.reduceNe, forall_const, forall_eq', forall_eq, List.forall_mem_cons, List.not_mem_nil]
        · simp only [onLst_len hL, hz1, hz2, hz3, Int.natCast_nonneg, Int.le_refl, Int.toNat_natCast, g0, wf_preprocess, ↓reduceIte, Nat.reduceEqDiff, reduceCtorEq, Nat.reduceAdd, Nat.reduceMul, Nat.reduceLeDiff, Nat.reduceLT, Nat.reduceSub, Int.reduceToNat, Int.reduceNeg, Int.reduceAdd, Int.reduceSub, Int.reduceMul, Int.reduceEq, Int.reduceLT, Int.reduceLE, Int.reduceNe, forall_const, forall_eq', forall_eq, List.forall_mem_cons, List.not_mem_nil]
          refine fresh_i fun S nS => ?_
          try rw [hz0]
          have gS : get S ((S, AObj.cells (List.replicate L.length [AV.sc (Value.int IntKind.i64 0), AV.sc (Value.int IntKind.i64 0)]).flatten) :: mNK) = some (AObj.cells (List.replicate L.length [AV.sc (Value.int IntKind.i64 0), AV.sc (Value.int IntKind.i64 0)]).flatten) := get_new
          have xS : Ext [] mNK ((S, AObj.cells (List.replicate L.length [AV.sc (Value.int IntKind.i64 0), AV.sc (Value.int IntKind.i64 0)]).flatten) :: mNK) := .new nS
          simp only [onLst_len hL, hz1, hz2, hz3, Int.natCast_nonneg, Int.le_refl, Int.toNat_natCast, g0, wf_preprocess, ↓reduceIte, Nat.reduceEqDiff, reduceCtorEq, Nat.reduceAdd, Nat.reduceMul, Nat.reduceLeDiff, Nat.reduceLT, Nat.reduceSub, Int.reduceToNat, Int.reduceNeg, Int.reduceAdd, Int.reduceSub, Int.reduceMul, Int.reduceEq, Int.reduceLT, Int.reduceLE, Int.reduceNe, forall_const, forall_eq', forall_eq, List.forall_mem_cons, List.not_mem_nil]
          generalize ((S, AObj.cells (List.replicate L.length [AV.sc (Value.int IntKind.i64 0), AV.sc (Value.int IntKind.i64 0)]).flatten) :: mNK) = mNKS at *
          have dSN : S ≠ N := new_ne gN nS
          have dSK : S ≠ K := new_ne gK nS
          have gN := xS _ _ gN (by simp)
          have gK := xS _ _ gK (by simp)
          have nS0 : S ∉ keys m := Ext.isNew emNK nS (by simp)
          have emNKS : Ext [] m mNKS := emNK.trans xS
          refine fresh_i fun M nM => ?_
          try rw [hz0]
          have gM : get M ((M, AObj.amap []) :: mNKS) = some (AObj.amap []) := get_new
          have xM : Ext [] mNKS ((M, AObj.amap []) :: mNKS) := .new nM
          simp only [onLst_len hL, hz1, hz2, hz3, Int.natCast_nonneg, Int.le_refl, Int.toNat_natCast, g0, wf_preprocess, ↓reduceIte, Nat.reduceEqDiff, reduceCtorEq, Nat.reduceAdd, Nat.reduceMul, Nat.reduceLeDiff, Nat.reduceLT, Nat.reduceSub, Int.reduceToNat, Int.reduceNeg, Int.reduceAdd, Int.reduceSub, Int.reduceMul, Int.reduceEq, Int.reduceLT, Int.reduceLE, Int.reduceNe, forall_const, forall_eq', forall_eq, List.forall_mem_cons, List.not_mem_nil]
          generalize ((M, AObj.amap []) :: mNKS) = mNKSM at *
          have dMN : M ≠ N := new_ne gN nM
          have dMK : M ≠ K := new_ne gK nM
          have dMS : M ≠ S := new_ne gS nM
          have gN := xM _ _ gN (by simp)
          have gK := xM _ _ gK (by simp)
          have gS := xM _ _ gS (by simp)
          have nM0 : M ∉ keys m := Ext.isNew emNKS nM (by simp)
          have emNKSM : Ext [] m mNKSM := emNKS.trans xM
          refine fresh_i fun T nT => ?_
          simp only [wf_preprocess, ↓reduceIte, Nat.reduceEqDiff, reduceCtorEq, Nat.reduceAdd, Nat.reduceMul, Nat.reduceLeDiff, Nat.reduceLT, Nat.reduceSub, Int.reduceToNat, Int.reduceNeg, Int.reduceAdd, Int.reduceSub, Int.reduceMul, Int.reduceEq, Int.reduceLT, Int.reduceLE, Int.reduceNe, forall_const, forall_eq', forall_eq, List.forall_mem_cons, List.not_mem_nil]
          have eT : Ext [] mNKSM ((T, _) :: mNKSM) := .new (ob := .cells [.mref N 0 L.length cN, .mapp M, .mref K 0 L.length L.length, .lst [] .nil, .lst [] .nil, .mref S 0 L.length L.length]) nT
          have dTN : T ≠ N := new_ne gN nT
          have dTK : T ≠ K := new_ne gK nT
          have dTS : T ≠ S := new_ne gS nT
          have dTM : T ≠ M := new_ne gM nT
          refine ⟨T, N, cN, M, K, S, r, ⟨get_new, eT _ _ gN (by simp), eT _ _ gM (by simp), eT _ _ gK (by simp), eT _ _ gS (by simp), ?_, ?_, emNKSM.trans eT⟩, ?_, ?_⟩
          · simp only [List.nodup_cons, List.mem_cons, List.not_mem_nil, or_false, not_or, not_false_eq_true, and_true, List.nodup_nil, true_and]
            exact ⟨⟨dTN, dTM, dTK, dTS⟩, ⟨dMN.symm, dKN.symm, dSN.symm⟩, ⟨dMK, dMS⟩, dSK.symm⟩
          · intro x hx
            simp only [List.mem_cons, List.not_mem_nil, or_false] at hx
            rcases hx with rfl | rfl | rfl | rfl | rfl
            · exact Ext.isNew emNKSM nT (by simp)
            · exact nN0
            · exact nM0
            · exact nK0
            · exact nS0
          · simp only [wf_preprocess, ↓reduceIte, Nat.reduceEqDiff, reduceCtorEq, Nat.reduceAdd, Nat.reduceMul, Nat.reduceLeDiff, Nat.reduceLT, Nat.reduceSub, Int.reduceToNat, Int.reduceNeg, Int.reduceAdd, Int.reduceSub, Int.reduceMul, Int.reduceEq, Int.reduceLT, Int.reduceLE, Int.reduceNe, forall_const, forall_eq', forall_eq, List.forall_mem_cons, List.not_mem_nil]
          · simp only [g0, wf_preprocess, ↓reduceIte, Nat.reduceEqDiff, reduceCtorEq, Nat.reduceAdd, Nat.reduceMul, Nat.reduceLeDiff, Nat.reduceLT, Nat.reduceSub, Int.reduceToNat, Int.reduceNeg, Int.reduceAdd, Int.reduceSub, Int.reduceMul, Int.reduceEq, Int.reduceLT, Int.reduceLE, Int.reduceNe, forall_const, forall_eq', forall_eq, List.forall_mem_cons, List.not_mem_nil]
      · simp only [onLst_len hL, hz1, hz2, hz3, Int.natCast_nonneg, Int.le_refl, Int.toNat_natCast, g0, wf_preprocess, ↓reduceIte, Nat.reduceEqDiff, reduceCtorEq, Nat.reduceAdd, Nat.reduceMul, Nat.reduceLeDiff, Nat.reduceLT, Nat.reduceSub, Int.reduceToNat, Int.reduceNeg, Int.reduceAdd, Int.reduceSub, Int.reduceMul, Int.reduceEq, Int.reduceLT, Int.reduceLE, Int.reduceNe, forall_const, forall_eq', forall_eq, List.forall_mem_cons, List.not_mem_nil]
        refine fresh_i fun S nS => ?_
        try rw [hz0]
        have gS : get S ((S, AObj.cells (List.replicate L.length [AV.sc (Value.int IntKind.i64 0), AV.sc (Value.int IntKind.i64 0)]).flatten) :: mN) = some (AObj.cells (List.replicate L.length [AV.sc (Value.int IntKind.i64 0), AV.sc (Value.int IntKind.i64 0)]).flatten) := get_new
        have xS : Ext [] mN ((S, AObj.cells (List.replicate L.length [AV.sc (Value.int IntKind.i64 0), AV.sc (Value.int IntKind.i64 0)]).flatten) :: mN) := .new nS
        simp only [onLst_len hL, hz1, hz2, hz3, Int.natCast_nonneg, Int.le_refl, Int.toNat_natCast, g0, wf_preprocess, ↓reduceIte, Nat.reduceEqDiff, reduceCtorEq, Nat.reduceAdd, Nat.reduceMul, Nat.reduceLeDiff, Nat.reduceLT, Nat.reduceSub, Int.reduceToNat, Int.reduceNeg, Int.reduceAdd, Int.reduceSub, Int.reduceMul, Int.reduceEq, Int.reduceLT, Int.reduceLE, Int.reduceNe, forall_const, forall_eq', forall_eq, List.forall_mem_cons, List.not_mem_nil]
        generalize ((S, AObj.cells (List.replicate L.length [AV.sc (Value.int IntKind.i64 0), AV.sc (Value.int IntKind.i64 0)]).flatten) :: mN) = mNS at *
        have dSN : S ≠ N := new_ne gN nS
        have gN := xS _ _ gN (by simp)
        have nS0 : S ∉ keys m := Ext.isNew emN nS (by simp)
        have emNS : Ext [] m mNS := emN.trans xS
        refine ⟨stop_i ?_, stop_i ?_⟩
        · simp only [onLst_len hL, hz1, hz2, hz3, Int.natCast_nonneg, Int.le_refl, Int.toNat_natCast, g0, wf_preprocess, ↓reduceIte, Nat.reduceEqDiff, reduceCtorEq, Nat.reduceAdd, Nat.reduceMul, Nat.reduceLeDiff, Nat.reduceLT, Nat.reduceSub, Int.reduceToNat, Int.reduceNeg, Int.reduceAdd, Int.reduceSub, Int.reduceMul, Int.reduceEq, Int.reduceLT, Int.reduceLE, Int.reduceNe, forall_const, forall_eq', forall_eq, List.forall_mem_cons, List.not_mem_nil]
          refine fresh_i fun M nM => ?_
          try rw [hz0]
          have gM : get M ((M, AObj.amap []) :: mNS) = some (AObj.amap []) := get_new
          have xM : Ext [] mNS ((M, AObj.amap []) :: mNS) := .new nM
          simp only [onLst_len hL, hz1, hz2, hz3, Int.natCast_nonneg, Int.le_refl, Int.toNat_natCast, g0, wf_preprocess, ↓reduceIte, Nat.reduceEqDiff, reduceCtorEq, Nat.reduceAdd, Nat.reduceMul, Nat.reduceLeDiff, Nat.reduceLT, Nat.reduceSub, Int.reduceToNat, Int.reduceNeg, Int.reduceAdd, Int.reduceSub, Int.reduceMul, Int.reduceEq, Int.reduceLT, Int.reduceLE, Int.reduceNe, forall_const, forall_eq', forall_eq, List.forall_mem_cons, List.not_mem_nil]
          generalize ((M, AObj.amap []) :: mNS) = mNSM at *
          have dMN : M ≠ N := new_ne gN nM
          have dMS : M ≠ S := new_ne gS nM
          have gN := xM _ _ gN (by simp)
          have gS := xM _ _ gS (by simp)
          have nM0 : M ∉ keys m := Ext.isNew emNS nM (by simp)
          have emNSM : Ext [] m mNSM := emNS.trans xM
          refine fresh_i fun K nK => ?_
          try rw [hz0]
          have gK : get K ((K, AObj.cells (List.replicate L.length [AV.lst [] Own.nil]).flatten) :: mNSM) = some (AObj.cells (List.replicate L.length [AV.lst [] Own.nil]).flatten) := get_new
          have xK : Ext [] mNSM ((K, AObj.cells (List.replicate L.length [AV.lst [] Own.nil]).flatten) :: mNSM) := .new nK
          simp only [onLst_len hL, hz1, hz2, hz3, Int.natCast_nonneg, Int.le_refl, Int.toNat_natCast, g0, wf_preprocess, ↓reduceIte, Nat.reduceEqDiff, reduceCtorEq, Nat.reduceAdd, Nat.reduceMul, Nat.reduceLeDiff, Nat.reduceLT, Nat.reduceSub, Int.reduceToNat, Int.reduceNeg, Int.reduceAdd, Int.reduceSub, Int.reduceMul, Int.reduceEq, Int.reduceLT, Int.reduceLE, Int.reduceNe, forall_const, forall_eq', forall_eq, List.forall_mem_cons, List.not_mem_nil]
          generalize ((K, AObj.cells (List.replicate L.length [AV.lst [] Own.nil]).flatten) :: mNSM) = mNSMK at *
          have dKN : K ≠ N := new_ne gN nK
          have dKS : K ≠ S := new_ne gS nK
          have dKM : K ≠ M := new_ne gM nK
          have gN := xK _ _ gN (by simp)
          have gS := xK _ _ gS (by simp)
          have gM := xK _ _ gM (by simp)
          have nK0 : K ∉ keys m := Ext.isNew emNSM nK (by simp)
          have emNSMK : Ext [] m mNSMK := emNSM.trans xK
          refine fresh_i fun T nT => ?_
          simp only [wf_preprocess, ↓reduceIte, Nat.reduceEqDiff, reduceCtorEq, Nat.reduceAdd, Nat.reduceMul, Nat.reduceLeDiff, Nat.reduceLT, Nat.reduceSub, Int.reduceToNat, Int.reduceNeg, Int.reduceAdd, Int.reduceSub, Int.reduceMul, Int.reduceEq, Int.reduceLT, Int.reduceLE, Int.reduceNe, forall_const, forall_eq', forall_eq, List.forall_mem_cons, List.not_mem_nil]
          have eT : Ext [] mNSMK ((T, _) :: mNSMK) := .new (ob := .cells [.mref N 0 L.length cN, .mapp M, .mref K 0 L.length L.length, .lst [] .nil, .lst [] .nil, .mref S 0 L.length L.length]) nT
          have dTN : T ≠ N := new_ne gN nT
          have dTS : T ≠ S := new_ne gS nT
          have dTM : T ≠ M := new_ne gM nT
          have dTK : T ≠ K := new_ne gK nT
          refine ⟨T, N, cN, M, K, S, r, ⟨get_new, eT _ _ gN (by simp), eT _ _ gM (by simp), eT _ _ gK (by simp), eT _ _ gS (by simp), ?_, ?_, emNSMK.trans eT⟩, ?_, ?_⟩
          · simp only [List.nodup_cons, List.mem_cons, List.not_mem_nil, or_false, not_or, not_false_eq_true, and_true, List.nodup_nil, true_and]
            exact ⟨⟨dTN, dTM, dTK, dTS⟩, ⟨dMN.symm, dKN.symm, dSN.symm⟩, ⟨dKM.symm, dMS⟩, dKS⟩
          · intro x hx
            simp only [List.mem_cons, List.not_mem_nil, or_false] at hx
            rcases hx with rfl | rfl | rfl | rfl | rfl
            · exact Ext.isNew emNSMK nT (by simp)
            · exact nN0
            · exact nM0
            · exact nK0
            · exact nS0
          · simp only [wf_preprocess, ↓reduceIte, Nat.reduceEqDiff, reduceCtorEq, Nat.reduceAdd, Nat.reduceMul, Nat.reduceLeDiff, Nat.reduceLT, Nat.reduceSub, Int.reduceToNat, Int.reduceNeg, Int.reduceAdd, Int.reduceSub, Int.reduceMul, Int.reduceEq, Int.reduceLT, Int.reduceLE, Int.reduceNe, forall_const, forall_eq', forall_eq, List.forall_mem_cons, List.not_mem_nil]
          · simp only [g0, wf_preprocess, ↓reduceIte, Nat.reduceEqDiff, reduceCtorEq, Nat.reduceAdd, Nat.reduceMul, Nat.reduceLeDiff, Nat.reduceLT, Nat.reduceSub, Int.reduceToNat, Int.reduceNeg, Int.reduceAdd, Int.reduceSub, Int.reduceMul, Int.reduceEq, Int.reduceLT, Int.reduceLE, Int.reduceNe, forall_const, forall_eq', forall_eq, List.forall_mem_cons, List.not_mem_nil]
        · simp only [onLst_len hL, hz1, hz2, hz3, Int.natCast_nonneg, Int.le_refl, Int.toNat_natCast, g0, wf_preprocess, ↓reduceIte, Nat.reduceEqDiff, reduceCtorEq, Nat.reduceAdd, Nat.reduceMul, Nat.reduceLeDiff, Nat.reduceLT, Nat.reduceSub, Int.reduceToNat, Int.reduceNeg, Int.reduceAdd, Int.reduceSub, Int.reduceMul, Int.reduceEq, Int.reduceLT, Int.reduceLE, Int.reduceNe, forall_const, forall_eq', forall_eq, List.forall_mem_cons, List.not_mem_nil]
          refine fresh_i fun K nK => ?_
          try rw [hz0]
          have gK : get K ((K, AObj.cells (List.replicate L.length [AV.lst [] Own.nil]).flatten) :: mNS) = some (AObj.cells (List.replicate L.length [AV.lst [] Own.nil]).flatten) := get_new
          have xK : Ext [] mNS ((K, AObj.cells (List.replicate L.length [AV.lst [] Own.nil]).flatten) :: mNS) := .new nK
          simp only [onLst_len hL, hz1, hz2, hz3, Int.natCast_nonneg, Int.le_refl, Int.toNat_natCast, g0, wf_preprocess, ↓reduceIte, Nat.reduceEqDiff, reduceCtorEq, Nat.reduceAdd, Nat.reduceMul, Nat.reduceLeDiff, Nat.reduceLT, Nat.reduceSub, Int.reduceToNat, Int.reduceNeg, Int.reduceAdd, Int.reduceSub, Int.reduceMul, Int.reduceEq, Int.reduceLT, Int.reduceLE, Int.reduceNe, forall_const, forall_eq', forall_eq, List.forall_mem_cons, List.not_mem_nil]
          generalize ((K, AObj.cells (List.replicate L.length [AV.lst [] Own.nil]).flatten) :: mNS) = mNSK at *
          have dKN : K ≠ N := new_ne gN nK
          have dKS : K ≠ S := new_ne gS nK
          have gN := xK _ _ gN (by simp)
          have gS := xK _ _ gS (by simp)
          have nK0 : K ∉ keys m := Ext.isNew emNS nK (by simp)
          have emNSK : Ext [] m mNSK := emNS.trans xK
          refine fresh_i fun M nM => ?_
          try rw [hz0]
          have gM : get M ((M, AObj.amap []) :: mNSK) = some (AObj.amap []) := get_new
          have xM : Ext [] mNSK ((M, AObj.amap []) :: mNSK) := .new nM
          simp only [onLst_len hL, hz1, hz2, hz3, Int.natCast_nonneg, Int.le_refl, Int.toNat_natCast, g0, wf_preprocess, ↓reduceIte, Nat.reduceEqDiff, reduceCtorEq, Nat.reduceAdd, Nat.reduceMul, Nat.reduceLeDiff, Nat.reduceLT, Nat.reduceSub, Int.reduceToNat, Int.reduceNeg, Int.reduceAdd, Int.reduceSub, Int.reduceMul, Int.reduceEq, Int.reduceLT, Int.reduceLE, Int.reduceNe, forall_const, forall_eq', forall_eq, List.forall_mem_cons, List.not_mem_nil]
          generalize ((M, AObj.amap []) :: mNSK) = mNSKM at *
          have dMN : M ≠ N := new_ne gN nM
          have dMS : M ≠ S := new_ne gS nM
          have dMK : M ≠ K := new_ne gK nM
          have gN := xM _ _ gN (by simp)
          have gS := xM _ _ gS (by simp)
          have gK := xM _ _ gK (by simp)
          have nM0 : M ∉ keys m := Ext.isNew emNSK nM (by simp)
          have emNSKM : Ext [] m mNSKM := emNSK.trans xM
          refine fresh_i fun T nT => ?_
          simp only [wf_preprocess, ↓reduceIte, Nat.reduceEqDiff, reduceCtorEq, Nat.reduceAdd, Nat.reduceMul, Nat.reduceLeDiff, Nat.reduceLT, Nat.reduceSub, Int.reduceToNat, Int.reduceNeg, Int.reduceAdd, Int.reduceSub, Int.reduceMul, Int.reduceEq, Int.reduceLT, Int.reduceLE, Int.reduceNe, forall_const, forall_eq', forall_eq, List.forall_mem_cons, List.not_mem_nil]
          have eT : Ext [] mNSKM ((T, _) :: mNSKM) := .new (ob := .cells [.mref N 0 L.length cN, .mapp M, .mref K 0 L.length L.length, .lst [] .nil, .lst [] .nil, .mref S 0 L.length L.length]) nT
          have dTN : T ≠ N := new_ne gN nT
          have dTS : T ≠ S := new_ne gS nT
          have dTK : T ≠ K := new_ne gK nT
          have dTM : T ≠ M := new_ne gM nT
          refine ⟨T, N, cN, M, K, S, r, ⟨get_new, eT _ _ gN (by simp), eT _ _ gM (by simp), eT _ _ gK (by simp), eT _ _ gS (by simp), ?_, ?_, emNSKM.trans eT⟩, ?_, ?_⟩
          · simp only [List.nodup_cons, List.mem_cons, List.not_mem_nil, or_false, not_or, not_false_eq_true, and_true, List.nodup_nil, true_and]
            exact ⟨⟨dTN, dTM, dTK, dTS⟩, ⟨dMN.symm, dKN.symm, dSN.symm⟩, ⟨dMK, dMS⟩, dKS⟩
          · intro x hx
            simp only [List.mem_cons, List.not_mem_nil, or_false] at hx
            rcases hx with rfl | rfl | rfl | rfl | rfl
            · exact Ext.isNew emNSKM nT (by simp)
            · exact nN0
            · exact nM0
            · exact nK0
            · exact nS0
          · simp only [wf_preprocess, ↓reduceIte, Nat.reduceEqDiff, reduceCtorEq, Nat.reduceAdd, Nat.reduceMul, Nat.reduceLeDiff, Nat.reduceLT, Nat.reduceSub, Int.reduceToNat, Int.reduceNeg, Int.reduceAdd, Int.reduceSub, Int.reduceMul, Int.reduceEq, Int.reduceLT, Int.reduceLE, Int.reduceNe, forall_const, forall_eq', forall_eq, List.forall_mem_cons, List.not_mem_nil]
          · simp only [g0, wf_preprocess, ↓reduceIte, Nat.reduceEqDiff, reduceCtorEq, Nat.reduceAdd, Nat.reduceMul, Nat.reduceLeDiff, Nat.reduceLT, Nat.reduceSub, Int.reduceToNat, Int.reduceNeg, Int.reduceAdd, Int.reduceSub, Int.reduceMul, Int.reduceEq, Int.reduceLT, Int.reduceLE, Int.reduceNe, forall_const, forall_eq', forall_eq, List.forall_mem_cons, List.not_mem_nil]
  · simp only [wf_preprocess, ↓reduceIte, Nat.reduceEqDiff, reduceCtorEq, Nat.reduceAdd, Nat.reduceMul, Nat.reduceLeDiff, Nat.reduceLT, Nat.reduceSub, Int.reduceToNat, Int.reduceNeg, Int.reduceAdd, Int.reduceSub, Int.reduceMul, Int.reduceEq, Int.reduceLT, Int.reduceLE, Int.reduceNe, forall_const, forall_eq', forall_eq, List.forall_mem_cons, List.not_mem_nil]
    refine ⟨stop_i ?_, stop_i ?_⟩
    · simp only [onLst_len hL, hz1, hz2, hz3, Int.natCast_nonneg, Int.le_refl, Int.toNat_natCast, g0, wf_preprocess, ↓reduceIte, Nat.reduceEqDiff, reduceCtorEq, Nat.reduceAdd, Nat.reduceMul, Nat.reduceLeDiff, Nat.reduceLT, Nat.reduceSub, Int.reduceToNat, Int.reduceNeg, Int.reduceAdd, Int.reduceSub, Int.reduceMul, Int.reduceEq, Int.reduceLT, Int.reduceLE, Int.reduceNe, forall_const, forall_eq', forall_eq, List.forall_mem_cons, List.not_mem_nil]
      refine fresh_i fun M nM => ?_
      try rw [hz0]
      have gM : get M ((M, AObj.amap []) :: m) = some (AObj.amap []) := get_new
      have xM : Ext [] m ((M, AObj.amap []) :: m) := .new nM
      simp only [onLst_len hL, hz1, hz2, hz3, Int.natCast_nonneg, Int.le_refl, Int.toNat_natCast, g0, wf_preprocess, ↓reduceIte, Nat.reduceEqDiff, reduceCtorEq, Nat.reduceAdd, Nat.reduceMul, Nat.reduceLeDiff, Nat.reduceLT, Nat.reduceSub, Int.reduceToNat, Int.reduceNeg, Int.reduceAdd, Int.reduceSub, Int.reduceMul, Int.reduceEq, Int.reduceLT, Int.reduceLE, Int.reduceNe, forall_const, forall_eq', forall_eq, List.forall_mem_cons, List.not_mem_nil]
      generalize ((M, AObj.amap []) :: m) = mM at *
      have nM0 : M ∉ keys m := Ext.isNew em nM (by simp)
      have emM : Ext [] m mM := em.trans xM
      refine ⟨stop_i ?_, stop_i ?_⟩
      · simp only [onLst_len hL, hz1, hz2, hz3, Int.natCast_nonneg, Int.le_refl, Int.toNat_natCast, g0, wf_preprocess, ↓reduceIte, Nat.reduceEqDiff, reduceCtorEq, Nat.reduceAdd, Nat.reduceMul, Nat.reduceLeDiff, Nat.reduceLT, Nat.reduceSub, Int.reduceToNat, Int.reduceNeg, Int.reduceAdd, Int.reduceSub, Int.reduceMul, Int.reduceEq, Int.reduceLT, Int.reduceLE, Int.reduceNe, forall_const, forall_eq', forall_eq, List.forall_mem_cons, List.not_mem_nil]
        refine call_i (CloneN_s hI h0 (by omega) fun N cN r mMN gN xN nN => ?_)
        simp only [onLst_len hL, hz1, hz2, hz3, Int.natCast_nonneg, Int.le_refl, Int.toNat_natCast, g0, wf_preprocess, ↓reduceIte, Nat.reduceEqDiff, reduceCtorEq, Nat.reduceAdd, Nat.reduceMul, Nat.reduceLeDiff, Nat.reduceLT, Nat.reduceSub, Int.reduceToNat, Int.reduceNeg, Int.reduceAdd, Int.reduceSub, Int.reduceMul, Int.reduceEq, Int.reduceLT, Int.reduceLE, Int.reduceNe, forall_const, forall_eq', forall_eq, List.forall_mem_cons, List.not_mem_nil]
        have dNM : N ≠ M := new_ne gM nN
        have gM := xN _ _ gM (by simp)
        have nN0 : N ∉ keys m := Ext.isNew emM nN (by simp)
        have emMN : Ext [] m mMN := emM.trans xN
        refine ⟨stop_i ?_, stop_i ?_⟩
        · simp only [onLst_len hL, hz1, hz2, hz3, Int.natCast_nonneg, Int.le_refl, Int.toNat_natCast, g0, wf_preprocess, ↓reduceIte, Nat.reduceEqDiff, reduceCtorEq, Nat.reduceAdd, Nat.reduceMul, Nat.reduceLeDiff, Nat.reduceLT, Nat.reduceSub, Int.reduceToNat, Int.reduceNeg, Int.reduceAdd, Int.reduceSub, Int.reduceMul, Int.reduceEq, Int.reduceLT, Int.reduceLE, Int.reduceNe, forall_const, forall_eq', forall_eq, List.forall_mem_cons, List.not_mem_nil]
          refine fresh_i fun K nK => ?_
          try rw [hz0]
          have gK : get K ((K, AObj.cells (List.replicate L.length [AV.lst [] Own.nil]).flatten) :: mMN) = some (AObj.cells (List.replicate L.length [AV.lst [] Own.nil]).flatten) := get_new
          have xK : Ext [] mMN ((K, AObj.cells (List.replicate L.length [AV.lst [] Own.nil]).flatten) :: mMN) := .new nK
          simp only [onLst_len hL, hz1, hz2, hz3, Int.natCast_nonneg, Int.le_refl, Int.toNat_natCast, g0, wf_preprocess, ↓reduceIte, Nat.reduceEqDiff, reduceCtorEq, Nat.reduceAdd, Nat.reduceMul, Nat.reduceLeDiff, Nat.reduceLT, Nat.reduceSub, Int.reduceToNat, Int.reduceNeg, Int.reduceAdd, Int.reduceSub, Int.reduceMul, Int.reduceEq, Int.reduceLT, Int.reduceLE, Int.reduceNe, forall_const, forall_eq', forall_eq, List.forall_mem_cons, List.not_mem_nil]
          generalize ((K, AObj.cells (List.replicate L.length [AV.lst [] Own.nil]).flatten) :: mMN) = mMNK at *
          have dKM : K ≠ M := new_ne gM nK
          have dKN : K ≠ N := new_ne gN nK
          have gM := xK _ _ gM (by simp)
          have gN := xK _ _ gN (by simp)
          have nK0 : K ∉ keys m := Ext.isNew emMN nK (by simp)
          have emMNK : Ext [] m mMNK := emMN.trans xK
          refine fresh_i fun S nS => ?_
          try rw [hz0]
          have gS : get S ((S, AObj.cells (List.replicate L.length [AV.sc (Value.int IntKind.i64 0), AV.sc (Value.int IntKind.i64 0)]).flatten) :: mMNK) = some (AObj.cells (List.replicate L.length [AV.sc (Value.int IntKind.i64 0), AV.sc (Value.int IntKind.i64 0)]).flatten) := get_new
          have xS : Ext [] mMNK ((S, AObj.cells (List.replicate L.length [AV.sc (Value.int IntKind.i64 0), AV.sc (Value.int IntKind.i64 0)]).flatten) :: mMNK) := .new nS
          simp only [onLst_len hL, hz1, hz2, hz3, Int.natCast_nonneg, Int.le_refl, Int.toNat_natCast, g0, wf_preprocess, ↓reduceIte, Nat.reduceEqDiff, reduceCtorEq, Nat.reduceAdd, Nat.reduceMul, Nat.reduceLeDiff, Nat.reduceLT, Nat.reduceSub, Int.reduceToNat, Int.reduceNeg, Int.reduceAdd, Int.reduceSub, Int.reduceMul, Int.reduceEq, Int.reduceLT, Int.reduceLE, Int.reduceNe, forall_const, forall_eq', forall_eq, List.forall_mem_cons, List.not_mem_nil]
          generalize ((S, AObj.cells (List.replicate L.length [AV.sc (Value.int IntKind.i64 0), AV.sc (Value.int IntKind.i64 0)]).flatten) :: mMNK) = mMNKS at *
          have dSM : S ≠ M := new_ne gM nS
          have dSN : S ≠ N := new_ne gN nS
          have dSK : S ≠ K := new_ne gK nS
          have gM := xS _ _ gM (by simp)
          have gN := xS _ _ gN (by simp)
          have gK := xS _ _ gK (by simp)
          have nS0 : S ∉ keys m := Ext.isNew emMNK nS (by simp)
          have emMNKS : Ext [] m mMNKS := emMNK.trans xS
          refine fresh_i fun T nT => ?_
          simp only [wf_preprocess, ↓reduceIte, Nat.reduceEqDiff, reduceCtorEq, Nat.reduceAdd, Nat.reduceMul, Nat.reduceLeDiff, Nat.reduceLT, Nat.reduceSub, Int.reduceToNat, Int.reduceNeg, Int.reduceAdd, Int.reduceSub, Int.reduceMul, Int.reduceEq, Int.reduceLT, Int.reduceLE, Int.reduceNe, forall_const, forall_eq', forall_eq, List.forall_mem_cons, List.not_mem_nil]
          have eT : Ext [] mMNKS ((T, _) :: mMNKS) := .new (ob := .cells [.mref N 0 L.length cN, .mapp M, .mref K 0 L.length L.length, .lst [] .nil, .lst [] .nil, .mref S 0 L.length L.length]) nT
          have dTM : T ≠ M := new_ne gM nT
          have dTN : T ≠ N := new_ne gN nT
          have dTK : T ≠ K := new_ne gK nT
          have dTS : T ≠ S := new_ne gS nT
          refine ⟨T, N, cN, M, K, S, r, ⟨get_new, eT _ _ gN (by simp), eT _ _ gM (by simp), eT _ _ gK (by simp), eT _ _ gS (by simp), ?_, ?_, emMNKS.trans eT⟩, ?_, ?_⟩
          · simp only [List.nodup_cons, List.mem_cons, List.not_mem_nil, or_false, not_or, not_false_eq_true, and_true, List.nodup_nil, true_and]
            exact ⟨⟨dTN, dTM, dTK, dTS⟩, ⟨dNM, dKN.symm, dSN.symm⟩, ⟨dKM.symm, dSM.symm⟩, dSK.symm⟩
          · intro x hx
            simp only [List.mem_cons, List.not_mem_nil, or_false] at hx
            rcases hx with rfl | rfl | rfl | rfl | rfl
            · exact Ext.isNew emMNKS nT (by simp)
            · exact nN0
            · exact nM0
            · exact nK0
            · exact nS0
          · simp only [wf_preprocess, ↓reduceIte, Nat.reduceEqDiff, reduceCtorEq, Nat.reduceAdd, Nat.reduceMul, Nat.reduceLeDiff, Nat.reduceLT, Nat.reduceSub, Int.reduceToNat, Int.reduceNeg, Int.reduceAdd, Int.reduceSub, Int.reduceMul, Int.reduceEq, Int.reduceLT, Int.reduceLE, Int.reduceNe, forall_const, forall_eq', forall_eq, List.forall_mem_cons, List.not_mem_nil]
          · simp only [g0, wf_preprocess, ↓reduceIte, Nat.reduceEqDiff, reduceCtorEq, Nat.reduceAdd, Nat.reduceMul, Nat.reduceLeDiff, Nat.reduceLT, Nat.reduceSub, Int.reduceToNat, Int.reduceNeg, Int.reduceAdd, Int.reduceSub, Int.reduceMul, Int.reduceEq, Int.reduceLT, Int.reduceLE, Int.reduceNe, forall_const, forall_eq', forall_eq, List.forall_mem_cons, List.not_mem_nil]
        · simp only [onLst_len hL, hz1, hz2, hz3, Int.natCast_nonneg, Int.le_refl, Int.toNat_natCast, g0, wf_preprocess, ↓reduceIte, Nat.reduceEqDiff, reduceCtorEq, Nat.reduceAdd, Nat.reduceMul, Nat.reduceLeDiff, Nat.reduceLT, Nat.reduceSub, Int.reduceToNat, Int.reduceNeg, Int.reduceAdd, Int.reduceSub, Int.reduceMul, Int.reduceEq, Int.reduceLT, Int.reduceLE, Int.reduceNe, forall_const, forall_eq', forall_eq, List.forall_mem_cons, List.not_mem_nil]
          refine fresh_i fun S nS => ?_
          try rw [hz0]
          have gS : get S ((S, AObj.cells (List.replicate L.length [AV.sc (Value.int IntKind.i64 0), AV.sc (Value.int IntKind.i64 0)]).flatten) :: mMN) = some (AObj.cells (List.replicate L.length [AV.sc (Value.int IntKind.i64 0), AV.sc (Value.int IntKind.i64 0)]).flatten) := get_new
          have xS : Ext [] mMN ((S, AObj.cells (List.replicate L.length [AV.sc (Value.int IntKind.i64 0), AV.sc (Value.int IntKind.i64 0)]).flatten) :: mMN) := .new nS
          simp only [onLst_len hL, hz1, hz2, hz3, Int.natCast_nonneg, Int.le_refl, Int.toNat_natCast, g0, wf_preprocess, ↓reduceIte, Nat.reduceEqDiff, reduceCtorEq, Nat.reduceAdd, Nat.reduceMul, Nat.reduceLeDiff, Nat.reduceLT, Nat.reduceSub, Int.reduceToNat, Int.reduceNeg, Int.reduceAdd, Int.reduceSub, Int.reduceMul, Int.reduceEq, Int.reduceLT, Int.reduceLE, Int.reduceNe, forall_const, forall_eq', forall_eq, List.forall_mem_cons, List.not_mem_nil]
          generalize ((S, AObj.cells (List.replicate L.length [AV.sc (Value.int IntKind.i64 0), AV.sc (Value.int IntKind.i64 0)]).flatten) :: mMN) = mMNS at *
          have dSM : S ≠ M := new_ne gM nS
          have dSN : S ≠ N := new_ne gN nS
          have gM := xS _ _ gM (by simp)
          have gN := xS _ _ gN (by simp)
          have nS0 : S ∉ keys m := Ext.isNew emMN nS (by simp)
          have emMNS : Ext [] m mMNS := emMN.trans xS
          refine fresh_i fun K nK => ?_
          try rw [hz0]
          have gK : get K ((K, AObj.cells (List.replicate L.length [AV.lst [] Own.nil]).flatten) :: mMNS) = some (AObj.cells (List.replicate L.length [AV.lst [] Own.nil]).flatten) := get_new
          have xK : Ext [] mMNS ((K, AObj.cells (List.replicate L.length [AV.lst [] Own.nil]).flatten) :: mMNS) := .new nK
          simp only [onLst_len hL, hz1, hz2, hz3, Int.natCast_nonneg, Int.le_refl, Int.toNat_natCast, g0, wf_preprocess, ↓reduceIte, Nat.reduceEqDiff, reduceCtorEq, Nat.reduceAdd, Nat.reduceMul, Nat.reduceLeDiff, Nat.reduceLT, Nat.reduceSub, Int.reduceToNat, Int.reduceNeg, Int.reduceAdd, Int.reduceSub, Int.reduceMul, Int.reduceEq, Int.reduceLT, Int.reduceLE, Int.reduceNe, forall_const, forall_eq', forall_eq, List.forall_mem_cons, List.not_mem_nil]
          generalize ((K, AObj.cells (List.replicate L.length [AV.lst [] Own.nil]).flatten) :: mMNS) = mMNSK at *
          have dKM : K ≠ M := new_ne gM nK
          have dKN : K ≠ N := new_ne gN nK
          have dKS : K ≠ S := new_ne gS nK
          have gM := xK _ _ gM (by simp)
          have gN := xK _ _ gN (by simp)
          have gS := xK _ _ gS (by simp)
          have nK0 : K ∉ keys m := Ext.isNew emMNS nK (by simp)
          have emMNSK : Ext [] m mMNSK := emMNS.trans xK
          refine fresh_i fun T nT => ?_
          simp only [wf_preprocess, ↓reduceIte, Nat.reduceEqDiff, reduceCtorEq, Nat.reduceAdd, Nat.reduceMul, Nat.reduceLeDiff, Nat.reduceLT, Nat.reduceSub, Int.reduceToNat, Int.reduceNeg, Int.reduceAdd, Int.reduceSub, Int.reduceMul, Int.reduceEq, Int.reduceLT, Int.reduceLE, Int.reduceNe, forall_const, forall_eq', forall_eq, List.forall_mem_cons, List.not_mem_nil]
          have eT : Ext [] mMNSK ((T, _) :: mMNSK) := .new (ob := .cells [.mref N 0 L.length cN, .mapp M, .mref K 0 L.length L.length, .lst [] .nil, .lst [] .nil, .mref S 0 L.length L.length]) nT
          have dTM : T ≠ M := new_ne gM nT
          have dTN : T ≠ N := new_ne gN nT
          have dTS : T ≠ S := new_ne gS nT
          have dTK : T ≠ K := new_ne gK nT
          refine ⟨T, N, cN, M, K, S, r, ⟨get_new, eT _ _ gN (by simp), eT _ _ gM (by simp), eT _ _ gK (by simp), eT _ _ gS (by simp), ?_, ?_, emMNSK.trans eT⟩, ?_, ?_⟩
          · simp only [List.nodup_cons, List.mem_cons, List.not_mem_nil, or_false, not_or, not_false_eq_true, and_true, List.nodup_nil, true_and]
            exact ⟨⟨dTN, dTM, dTK, dTS⟩, ⟨dNM, dKN.symm, dSN.symm⟩, ⟨dKM.symm, dSM.symm⟩, dKS⟩
          · intro x hx
            simp only [List.mem_cons, List.not_mem_nil, or_false] at hx
            rcases hx with rfl | rfl | rfl | rfl | rfl
            · exact Ext.isNew emMNSK nT (by simp)
            · exact nN0
            · exact nM0
            · exact nK0
            · exact nS0
          · simp only [wf_preprocess, ↓reduceIte, Nat.reduceEqDiff, reduceCtorEq, Nat.reduceAdd, Nat.reduceMul, Nat.reduceLeDiff, Nat.reduceLT, Nat.reduceSub, Int.reduceToNat, Int.reduceNeg, Int.reduceAdd, Int.reduceSub, Int.reduceMul, Int.reduceEq, Int.reduceLT, Int.reduceLE, Int.reduceNe, forall_const, forall_eq', forall_eq, List.forall_mem_cons, List.not_mem_nil]
          · simp only [g0, wf_preprocess, ↓reduceIte, Nat.reduceEqDiff, reduceCtorEq, Nat.reduceAdd, Nat.reduceMul, Nat.reduceLeDiff, Nat.reduceLT, Nat.reduceSub, Int.reduceToNat, Int.reduceNeg, Int.reduceAdd, Int.reduceSub, Int.reduceMul, Int.reduceEq, Int.reduceLT, Int.reduceLE, Int.reduceNe, forall_const, forall_eq', forall_eq, List.forall_mem_cons, List.not_mem_nil]
      · simp only [wf_preprocess, ↓reduceIte, Nat.reduceEqDiff, reduceCtorEq, Nat.reduceAdd, Nat.reduceMul, Nat.reduceLeDiff, Nat.reduceLT, Nat.reduceSub, Int.reduceToNat, Int.reduceNeg, Int.reduceAdd, Int.reduceSub, Int.reduceMul, Int.reduceEq, Int.reduceLT, Int.reduceLE, Int.reduceNe, forall_const, forall_eq', forall_eq, List.forall_mem_cons, List.not_mem_nil]
        refine ⟨stop_i ?_, stop_i ?_⟩
        · simp only [onLst_len hL, hz1, hz2, hz3, Int.natCast_nonneg, Int.le_refl, Int.toNat_natCast, g0, wf_preprocess, ↓reduceIte, Nat.reduceEqDiff, reduceCtorEq, Nat.reduceAdd, Nat.reduceMul, Nat.reduceLeDiff, Nat.reduceLT, Nat.reduceSub, Int.reduceToNat, Int.reduceNeg, Int.reduceAdd, Int.reduceSub, Int.reduceMul, Int.reduceEq, Int.reduceLT, Int.reduceLE, Int.reduceNe, forall_const, forall_eq', forall_eq, List.forall_mem_cons, List.not_mem_nil]
          refine fresh_i fun K nK => ?_
          try rw [hz0]
          have gK : get K ((K, AObj.cells (List.replicate L.length [AV.lst [] Own.nil]).flatten) :: mM) = some (AObj.cells (List.replicate L.length [AV.lst [] Own.nil]).flatten) := get_new
          have xK : Ext [] mM ((K, AObj.cells (List.replicate L.length [AV.lst [] Own.nil]).flatten) :: mM) := .new nK
          simp only [onLst_len hL, hz1, hz2, hz3, Int.natCast_nonneg, Int.le_refl, Int.toNat_natCast, g0, wf_preprocess, ↓reduceIte, Nat.reduceEqDiff, reduceCtorEq, Nat.reduceAdd, Nat.reduceMul, Nat.reduceLeDiff, Nat.reduceLT, Nat.reduceSub, Int.reduceToNat, Int.reduceNeg, Int.reduceAdd, Int.reduceSub, Int.reduceMul, Int.reduceEq, Int.reduceLT, Int.reduceLE, Int.reduceNe, forall_const, forall_eq', forall_eq, List.forall_mem_cons, List.not_mem_nil]
          generalize ((K, AObj.cells (List.replicate L.length [AV.lst [] Own.nil]).flatten) :: mM) = mMK at *
          have dKM : K ≠ M := new_ne gM nK
          have gM := xK _ _ gM (by simp)
          have nK0 : K ∉ keys m := Ext.isNew emM nK (by simp)
          have emMK : Ext [] m mMK := emM.trans xK
          refine ⟨stop_i ?_, stop_i ?_⟩
          · simp only [onLst_len hL, hz1, hz2, hz3, Int.natCast_nonneg, Int.le_refl, Int.toNat_natCast, g0, wf_preprocess, ↓reduceIte, Nat.reduceEqDiff, reduceCtorEq, Nat.reduceAdd, Nat.reduceMul, Nat.reduceLeDiff, Nat.reduceLT, Nat.reduceSub, Int.reduceToNat, Int.reduceNeg, Int.reduceAdd, Int.reduceSub, Int.reduceMul, Int.reduceEq, Int.reduceLT, Int.reduceLE, Int.reduceNe, forall_const, forall_eq', forall_eq, List.forall_mem_cons, List.not_mem_nil]
            refine call_i (CloneN_s hI h0 (by omega) fun N cN r mMKN gN xN nN => ?_)
            simp only [onLst_len hL, hz1, hz2, hz3, Int.natCast_nonneg, Int.le_refl, Int.toNat_natCast, g0, wf_preprocess, ↓reduceIte, Nat.reduceEqDiff, reduceCtorEq, Nat.reduceAdd, Nat.reduceMul, Nat.reduceLeDiff, Nat.reduceLT, Nat.reduceSub, Int.reduceToNat, Int.reduceNeg, Int.reduceAdd, Int.reduceSub, Int.reduceMul, Int.reduceEq, Int.reduceLT, Int.reduceLE, Int.reduceNe, forall_const, forall_eq', forall_eq, List.forall_mem_cons, List.not_mem_nil]
            have dNM : N ≠ M := new_ne gM nN
            have dNK : N ≠ K := new_ne gK nN
            have gM := xN _ _ gM (by simp)
            have gK := xN _ _ gK (by simp)
            have nN0 : N ∉ keys m := Ext.isNew emMK nN (by simp)
            have emMKN : Ext [] m mMKN := emMK.trans xN
            refine fresh_i fun S nS => ?_
            try rw [hz0]
            have gS : get S ((S, AObj.cells (List.replicate L.length [AV.sc (Value.int IntKind.i64 0), AV.sc (Value.int IntKind.i64 0)]).flatten) :: mMKN) = some (AObj.cells (List.replicate L.length [AV.sc (Value.int IntKind.i64 0), AV.sc (Value.int IntKind.i64 0)]).flatten) := get_new
            have xS : Ext [] mMKN ((S, AObj.cells (List.replicate L.length [AV.sc (Value.int IntKind.i64 0), AV.sc (Value.int IntKind.i64 0)]).flatten) :: mMKN) := .new nS
            simp only [onLst_len hL, hz1, hz2, hz3, Int.natCast_nonneg, Int.le_refl, Int.toNat_natCast, g0, wf_preprocess, ↓reduceIte, Nat.reduceEqDiff, reduceCtorEq, Nat.reduceAdd, Nat.reduceMul, Nat.reduceLeDiff, Nat.reduceLT, Nat.reduceSub, Int.reduceToNat, Int.reduceNeg, Int.reduceAdd, Int.reduceSub, Int.reduceMul, Int.reduceEq, Int.reduceLT, Int.reduceLE, Int.reduceNe, forall_const, forall_eq', forall_eq, List.forall_mem_cons, List.not_mem_nil]
            generalize ((S, AObj.cells (List.replicate L.length [AV.sc (Value.int IntKind.i64 0), AV.sc (Value.int IntKind.i64 0)]).flatten) :: mMKN) = mMKNS at *
            have dSM : S ≠ M := new_ne gM nS
            have dSK : S ≠ K := new_ne gK nS
            have dSN : S ≠ N := new_ne gN nS
            have gM := xS _ _ gM (by simp)
            have gK := xS _ _ gK (by simp)
            have gN := xS _ _ gN (by simp)
            have nS0 : S ∉ keys m := Ext.isNew emMKN nS (by simp)
            have emMKNS : Ext [] m mMKNS := emMKN.trans xS
            refine fresh_i fun T nT => ?_
            simp only [wf_preprocess, ↓reduceIte, Nat.reduceEqDiff, reduceCtorEq, Nat.reduceAdd, Nat.reduceMul, Nat.reduceLeDiff, Nat.reduceLT, Nat.reduceSub, Int.reduceToNat, Int.reduceNeg, Int.reduceAdd, Int.reduceSub, Int.reduceMul, Int.reduceEq, Int.reduceLT, Int.reduceLE, Int.reduceNe, forall_const, forall_eq', forall_eq, List.forall_mem_cons, List.not_mem_nil]
            have eT : Ext [] mMKNS ((T, _) :: mMKNS) := .new (ob := .cells [.mref N 0 L.length cN, .mapp M, .mref K 0 L.length L.length, .lst [] .nil, .lst [] .nil, .mref S 0 L.length L.length]) nT
            have dTM : T ≠ M := new_ne gM nT
            have dTK : T ≠ K := new_ne gK nT
            have dTN : T ≠ N := new_ne gN nT
            have dTS : T ≠ S := new_ne gS nT
            refine ⟨T, N, cN, M, K, S, r, ⟨get_new, eT _ _ gN (by simp), eT _ _ gM (by simp), eT _ _ gK (by simp), eT _ _ gS (by simp), ?_, ?_, emMKNS.trans eT⟩, ?_, ?_⟩
            · simp only [List.nodup_cons, List.mem_cons, List.not_mem_nil, or_false, not_or, not_false_eq_true, and_true, List.nodup_nil, true_and]
              exact ⟨⟨dTN, dTM, dTK, dTS⟩, ⟨dNM, dNK, dSN.symm⟩, ⟨dKM.symm, dSM.symm⟩, dSK.symm⟩
            · intro x hx
              simp only [List.mem_cons, List.not_mem_nil, or_false] at hx
              rcases hx with rfl | rfl | rfl | rfl | rfl
              · exact Ext.isNew emMKNS nT (by simp)
              · exact nN0
              · exact nM0
              · exact nK0
              · exact nS0
            · simp only [wf_preprocess, ↓reduceIte, Nat.reduceEqDiff, reduceCtorEq, Nat.reduceAdd, Nat.reduceMul, Nat.reduceLeDiff, Nat.reduceLT, Nat.reduceSub, Int.reduceToNat, Int.reduceNeg, Int.reduceAdd, Int.reduceSub, Int.reduceMul, Int.reduceEq, Int.reduceLT, Int.reduceLE, Int.reduceNe, forall_const, forall_eq', forall_eq, List.forall_mem_cons, List.not_mem_nil]
            · simp only [g0, wf_preprocess, ↓reduceIte, Nat.reduceEqDiff, reduceCtorEq, Nat.reduceAdd, Nat.reduceMul, Nat.reduceLeDiff, Nat.reduceLT, Nat.reduceSub, Int.reduceToNat, Int.reduceNeg, Int.reduceAdd, Int.reduceSub, Int.reduceMul, Int.reduceEq, Int.reduceLT, Int.reduceLE, Int.reduceNe, forall_const, forall_eq', forall_eq, List.forall_mem_cons, List.not_mem_nil]
          · simp only [onLst_len hL, hz1, hz2, hz3, Int.natCast_nonneg, Int.le_refl, Int.toNat_natCast, g0, wf_preprocess, ↓reduceIte, Nat.reduceEqDiff, reduceCtorEq, Nat.reduceAdd, Nat.reduceMul, Nat.reduceLeDiff, Nat.reduceLT, Nat.reduceSub, Int.reduceToNat, Int.reduceNeg, Int.reduceAdd, Int.reduceSub, Int.reduceMul, Int.reduceEq, Int.reduceLT, Int.reduceLE, Int.reduceNe, forall_const, forall_eq', forall_eq, List.forall_mem_cons, List.not_mem_nil]
            refine fresh_i fun S nS => ?_
            try rw [hz0]
            have gS : get S ((S, AObj.cells (List.replicate L.length [AV.sc (Value.int IntKind.i64 0), AV.sc (Value.int IntKind.i64 0)]).flatten) :: mMK) = some (AObj.cells (List.replicate L.length [AV.sc (Value.int IntKind.i64 0), AV.sc (Value.int IntKind.i64 0)]).flatten) := get_new
            have xS : Ext [] mMK ((S, AObj.cells (List.replicate L.length [AV.sc (Value.int IntKind.i64 0), AV.sc (Value.int IntKind.i64 0)]).flatten) :: mMK) := .new nS
            simp only [onLst_len hL, hz1, hz2, hz3, Int.natCast_nonneg, Int.le_refl, Int.toNat_natCast, g0, wf_preprocess, ↓reduceIte, Nat.reduceEqDiff, reduceCtorEq, Nat.reduceAdd, Nat.reduceMul, Nat.reduceLeDiff, Nat.reduceLT, Nat.reduceSub, Int.reduceToNat, Int.reduceNeg, Int.reduceAdd, Int.reduceSub, Int.reduceMul, Int.reduceEq, Int.reduceLT, Int.reduceLE, Int.reduceNe, forall_const, forall_eq', forall_eq, List.forall_mem_cons, List.not_mem_nil]
            generalize ((S, AObj.cells (List.replicate L.length [AV.sc (Value.int IntKind.i64 0), AV.sc (Value.int IntKind.i64 0)]).flatten) :: mMK) = mMKS at *
            have dSM : S ≠ M := new_ne gM nS
            have dSK : S ≠ K := new_ne gK nS
            have gM := xS _ _ gM (by simp)
            have gK := xS _ _ gK (by simp)
            have nS0 : S ∉ keys m := Ext.isNew emMK nS (by simp)
            have emMKS : Ext [] m mMKS := emMK.trans xS
            refine call_i (CloneN_s hI h0 (by omega) fun N cN r mMKSN gN xN nN => ?_)
            simp only [onLst_len hL, hz1, hz2, hz3, Int.natCast_nonneg, Int.le_refl, Int.toNat_natCast, g0, wf_preprocess, ↓reduceIte, Nat.reduceEqDiff, reduceCtorEq, Nat.reduceAdd, Nat.reduceMul, Nat.reduceLeDiff, Nat.reduceLT, Nat.reduceSub, Int.reduceToNat, Int.reduceNeg, Int.reduceAdd, Int.reduceSub, Int.reduceMul, Int.reduceEq, Int.reduceLT, Int.reduceLE, Int.reduceNe, forall_const, forall_eq', forall_eq, List.forall_mem_cons, List.not_mem_nil]
            have dNM : N ≠ M := new_ne gM nN
            have dNK : N ≠ K := new_ne gK nN
            have dNS : N ≠ S := new_ne gS nN
            have gM := xN _ _ gM (by simp)
            have gK := xN _ _ gK (by simp)
            have gS := xN _ _ gS (by simp)
            have nN0 : N ∉ keys m := Ext.isNew emMKS nN (by simp)
            have emMKSN : Ext [] m mMKSN := emMKS.trans xN
            refine fresh_i fun T nT => ?_
            simp only [wf_preprocess, ↓reduceIte, Nat.reduceEqDiff, reduceCtorEq, Nat.reduceAdd, Nat.reduceMul, Nat.reduceLeDiff, Nat.reduceLT, Nat.reduceSub, Int.reduceToNat, Int.reduceNeg, Int.reduceAdd, Int.reduceSub, Int.reduceMul, Int.reduceEq, Int.reduceLT, Int.reduceLE, Int.reduceNe, forall_const, forall_eq', forall_eq, List.forall_mem_cons, List.not_mem_nil]
            have eT : Ext [] mMKSN ((T, _) :: mMKSN) := .new (ob := .cells [.mref N 0 L.length cN, .mapp M, .mref K 0 L.length L.length, .lst [] .nil, .lst [] .nil, .mref S 0 L.length L.length]) nT
            have dTM : T ≠ M := new_ne gM nT
            have dTK : T ≠ K := new_ne gK nT
            have dTS : T ≠ S := new_ne gS nT
            have dTN : T ≠ N := new_ne gN nT
            refine ⟨T, N, cN, M, K, S, r, ⟨get_new, eT _ _ gN (by simp), eT _ _ gM (by simp), eT _ _ gK (by simp), eT _ _ gS (by simp), ?_, ?_, emMKSN.trans eT⟩, ?_, ?_⟩
            · simp only [List.nodup_cons, List.mem_cons, List.not_mem_nil, or_false, not_or, not_false_eq_true, and_true, List.nodup_nil, true_and]
              exact ⟨⟨dTN, dTM, dTK, dTS⟩, ⟨dNM, dNK, dNS⟩, ⟨dKM.symm, dSM.symm⟩, dSK.symm⟩
            · intro x hx
              simp only [List.mem_cons, List.not_mem_nil, or_false] at hx
              rcases hx with rfl | rfl | rfl | rfl | rfl
              · exact Ext.isNew emMKSN nT (by simp)
              · exact nN0
              · exact nM0
              · exact nK0
              · exact nS0
            · simp only [wf_preprocess, ↓reduceIte, Nat.reduceEqDiff, reduceCtorEq, Nat.reduceAdd, Nat.reduceMul, Nat.reduceLeDiff, Nat.reduceLT, Nat.reduceSub, Int.reduceToNat, Int.reduceNeg, Int.reduceAdd, Int.reduceSub, Int.reduceMul, Int.reduceEq, Int.reduceLT, Int.reduceLE, Int.reduceNe, forall_const, forall_eq', forall_eq, List.forall_mem_cons, List.not_mem_nil]
            · simp only [g0, wf_preprocess, ↓reduceIte, Nat.reduceEqDiff, reduceCtorEq, Nat.reduceAdd, Nat.reduceMul, Nat.reduceLeDiff, Nat.reduceLT, Nat.reduceSub, Int.reduceToNat, Int.reduceNeg, Int.reduceAdd, Int.reduceSub, Int.reduceMul, Int.reduceEq, Int.reduceLT, Int.reduceLE, Int.reduceNe, forall_const, forall_eq', forall_eq, List.forall_mem_cons, List.not_mem_nil]
        · simp only [onLst_len hL, hz1, hz2, hz3, Int.natCast_nonneg, Int.le_refl, Int.toNat_natCast, g0, wf_preprocess, ↓reduceIte, Nat.reduceEqDiff, reduceCtorEq, Nat.reduceAdd, Nat.reduceMul, Nat.reduceLeDiff, Nat.reduceLT, Nat.reduceSub, Int.reduceToNat, Int.reduceNeg, Int.reduceAdd, Int.reduceSub, Int.reduceMul, Int.reduceEq, Int.reduceLT, Int.reduceLE, Int.reduceNe, forall_const, forall_eq', forall_eq, List.forall_mem_cons, List.not_mem_nil]
          refine fresh_i fun S nS => ?_
          try rw [hz0]
          have gS : get S ((S, AObj.cells (List.replicate L.length [AV.sc (Value.int IntKind.i64 0), AV.sc (Value.int IntKind.i64 0)]).flatten) :: mM) = some (AObj.cells (List.replicate L.length [AV.sc (Value.int IntKind.i64 0), AV.sc (Value.int IntKind.i64 0)]).flatten) := get_new
          have xS : Ext [] mM ((S, AObj.cells (List.replicate L.length [AV.sc (Value.int IntKind.i64 0), AV.sc (Value.int IntKind.i64 0)]).flatten) :: mM) := .new nS
          simp only [onLst_len hL, hz1, hz2, hz3, Int.natCast_nonneg, Int.le_refl, Int.toNat_natCast, g0, wf_preprocess, ↓reduceIte, Nat.reduceEqDiff, reduceCtorEq, Nat.reduceAdd, Nat.reduceMul, Nat.reduceLeDiff, Nat.reduceLT, Nat.reduceSub, Int.reduceToNat, Int.reduceNeg, Int.reduceAdd, Int.reduceSub, Int.reduceMul, Int.reduceEq, Int.reduceLT, Int.reduceLE, Int.reduceNe, forall_const, forall_eq', forall_eq, List.forall_mem_cons, List.not_mem_nil]
          generalize ((S, AObj.cells (List.replicate L.length [AV.sc (Value.int IntKind.i64 0), AV.sc (Value.int IntKind.i64 0)]).flatten) :: mM) = mMS at *
          have dSM : S ≠ M := new_ne gM nS
          have gM := xS _ _ gM (by simp)
          have nS0 : S ∉ keys m := Ext.isNew emM nS (by simp)
          have emMS : Ext [] m mMS := emM.trans xS
          refine ⟨stop_i ?_, stop_i ?_⟩
          · simp only [onLst_len hL, hz1, hz2, hz3, Int.natCast_nonneg, Int.le_refl, Int.toNat_natCast, g0, wf_preprocess, ↓reduceIte, Nat.reduceEqDiff, reduceCtorEq, Nat.reduceAdd, Nat.reduceMul, Nat.reduceLeDiff, Nat.reduceLT, Nat.reduceSub, Int.reduceToNat, Int.reduceNeg, Int.reduceAdd, Int.reduceSub, Int.reduceMul, Int.reduceEq, Int.reduceLT, Int.reduceLE, Int.reduceNe, forall_const, forall_eq', forall_eq, List.forall_mem_cons, List.not_mem_nil]
            refine call_i (CloneN_s hI h0 (by omega) fun N cN r mMSN gN xN nN => ?_)
            simp only [onLst_len hL, hz1, hz2, hz3, Int.natCast_nonneg, Int.le_refl, Int.toNat_natCast, g0, wf_preprocess, ↓reduceIte, Nat.reduceEqDiff, reduceCtorEq, Nat.reduceAdd, Nat.reduceMul, Nat.reduceLeDiff, Nat.reduceLT, Nat.reduceSub, Int.reduceToNat, Int.reduceNeg, Int.reduceAdd, Int.reduceSub, Int.reduceMul, Int.reduceEq, Int.reduceLT, Int.reduceLE, Int.reduceNe, forall_const, forall_eq', forall_eq, List.forall_mem_cons, List.not_mem_nil]
            have dNM : N ≠ M := new_ne gM nN
            have dNS : N ≠ S := new_ne gS nN
            have gM := xN _ _ gM (by simp)
            have gS := xN _ _ gS (by simp)
            have nN0 : N ∉ keys m := Ext.isNew emMS nN (by simp)
            have emMSN : Ext [] m mMSN := emMS.trans xN
            refine fresh_i fun K nK => ?_
            try rw [hz0]
            have gK : get K ((K, AObj.cells (List.replicate L.length [AV.lst [] Own.nil]).flatten) :: mMSN) = some (AObj.cells (List.replicate L.length [AV.lst [] Own.nil]).flatten) := get_new
            have xK : Ext [] mMSN ((K, AObj.cells (List.replicate L.length [AV.lst [] Own.nil]).flatten) :: mMSN) := .new nK
            simp only [onLst_len hL, hz1, hz2, hz3, Int.natCast_nonneg, Int.le_refl, Int.toNat_natCast, g0, wf_preprocess, ↓reduceIte, Nat.reduceEqDiff, reduceCtorEq, Nat.reduceAdd, Nat.reduceMul, Nat.reduceLeDiff, Nat.reduceLT, Nat.reduceSub, Int.reduceToNat, Int.reduceNeg, Int.reduceAdd, Int.reduceSub, Int.reduceMul, Int.reduceEq, Int.reduceLT, Int.reduceLE, Int.reduceNe, forall_const, forall_eq', forall_eq, List.forall_mem_cons, List.not_mem_nil]
            generalize ((K, AObj.cells (List.replicate L.length [AV.lst [] Own.nil]).flatten) :: mMSN) = mMSNK at *
            have dKM : K ≠ M := new_ne gM nK
            have dKS : K ≠ S := new_ne gS nK
            have dKN : K ≠ N := new_ne gN nK
            have gM := xK _ _ gM (by simp)
            have gS := xK _ _ gS (by simp)
            have gN := xK _ _ gN (by simp)
            have nK0 : K ∉ keys m := Ext.isNew emMSN nK (by simp)
            have emMSNK : Ext [] m mMSNK := emMSN.trans xK
            refine fresh_i fun T nT => ?_
            simp only [wf_preprocess, ↓reduceIte, Nat.reduceEqDiff, reduceCtorEq, Nat.reduceAdd, Nat.reduceMul, Nat.reduceLeDiff, Nat.reduceLT, Nat.reduceSub, Int.reduceToNat, Int.reduceNeg, Int.reduceAdd, Int.reduceSub, Int.reduceMul, Int.reduceEq, Int.reduceLT, Int.reduceLE, Int.reduceNe, forall_const, forall_eq', forall_eq, List.forall_mem_cons, List.not_mem_nil]
            have eT : Ext [] mMSNK ((T, _) :: mMSNK) := .new (ob := .cells [.mref N 0 L.length cN, .mapp M, .mref K 0 L.length L.length, .lst [] .nil, .lst [] .nil, .mref S 0 L.length L.length]) nT
            have dTM : T ≠ M := new_ne gM nT
            have dTS : T ≠ S := new_ne gS nT
            have dTN : T ≠ N := new_ne gN nT
            have dTK : T ≠ K := new_ne gK nT
            refine ⟨T, N, cN, M, K, S, r, ⟨get_new, eT _ _ gN (by simp), eT _ _ gM (by simp), eT _ _ gK (by simp), eT _ _ gS (by simp), ?_, ?_, emMSNK.trans eT⟩, ?_, ?_⟩
            · simp only [List.nodup_cons, List.mem_cons, List.not_mem_nil, or_false, not_or, not_false_eq_true, and_true, List.nodup_nil, true_and]
              exact ⟨⟨dTN, dTM, dTK, dTS⟩, ⟨dNM, dKN.symm, dNS⟩, ⟨dKM.symm, dSM.symm⟩, dKS⟩
            · intro x hx
              simp only [List.mem_cons, List.not_mem_nil, or_false] at hx
              rcases hx with rfl | rfl | rfl | rfl | rfl
              · exact Ext.isNew emMSNK nT (by simp)
              · exact nN0
              · exact nM0
              · exact nK0
              · exact nS0
            · simp only [wf_preprocess, ↓reduceIte, Nat.reduceEqDiff, reduceCtorEq, Nat.reduceAdd, Nat.reduceMul, Nat.reduceLeDiff, Nat.reduceLT, Nat.reduceSub, Int.reduceToNat, Int.reduceNeg, Int.reduceAdd, Int.reduceSub, Int.reduceMul, Int.reduceEq, Int.reduceLT, Int.reduceLE, Int.reduceNe, forall_const, forall_eq', forall_eq, List.forall_mem_cons, List.not_mem_nil]
            · simp only [g0, wf_preprocess, ↓reduceIte, Nat.reduceEqDiff, reduceCtorEq, Nat.reduceAdd, Nat.reduceMul, Nat.reduceLeDiff, Nat.reduceLT, Nat.reduceSub, Int.reduceToNat, Int.reduceNeg, Int.reduceAdd, Int.reduceSub, Int.reduceMul, Int.reduceEq, Int.reduceLT, Int.reduceLE, Int.reduceNe, forall_const, forall_eq', forall_eq, List.forall_mem_cons, List.not_mem_nil]
          · simp only [onLst_len hL, hz1, hz2, hz3, Int.natCast_nonneg, Int.le_refl, Int.toNat_natCast, g0, wf_preprocess, ↓reduceIte, Nat.reduceEqDiff, reduceCtorEq, Nat.reduceAdd, Nat.reduceMul, Nat.reduceLeDiff, Nat.reduceLT, Nat.reduceSub, Int.reduceToNat, Int.reduceNeg, Int.reduceAdd, Int.reduceSub, Int.reduceMul, Int.reduceEq, Int.reduceLT, Int.reduceLE, Int.reduceNe, forall_const, forall_eq', forall_eq, List.forall_mem_cons, List.not_mem_nil]
            refine fresh_i fun K nK => ?_
            try rw [hz0]
            have gK : get K ((K, AObj.cells (List.replicate L.length [AV.lst [] Own.nil]).flatten) :: mMS) = some (AObj.cells (List.replicate L.length [AV.lst [] Own.nil]).flatten) := get_new
            have xK : Ext [] mMS ((K, AObj.cells (List.replicate L.length [AV.lst [] Own.nil]).flatten) :: mMS) := .new nK
            simp only [onLst_len hL, hz1, hz2, hz3, Int.natCast_nonneg, Int.le_refl, Int.toNat_natCast, g0, wf_preprocess, ↓reduceIte, Nat.reduceEqDiff, reduceCtorEq, Nat.reduceAdd, Nat.reduceMul, Nat.reduceLeDiff, Nat.reduceLT, Nat.reduceSub, Int.reduceToNat, Int.reduceNeg, Int.reduceAdd, Int.reduceSub, Int.reduceMul, Int.reduceEq, Int.reduceLT, Int.reduceLE, Int.reduceNe, forall_const, forall_eq', forall_eq, List.forall_mem_cons, List.not_mem_nil]
            generalize ((K, AObj.cells (List.replicate L.length [AV.lst [] Own.nil]).flatten) :: mMS) = mMSK at *
            have dKM : K ≠ M := new_ne gM nK
            have dKS : K ≠ S := new_ne gS nK
            have gM := xK _ _ gM (by simp)
            have gS := xK _ _ gS (by simp)
            have nK0 : K ∉ keys m := Ext.isNew emMS nK (by simp)
            have emMSK : Ext [] m mMSK := emMS.trans xK
            refine call_i (CloneN_s hI h0 (by omega) fun N cN r mMSKN gN xN nN => ?_)
            simp only [onLst_len hL, hz1, hz2, hz3, Int.natCast_nonneg, Int.le_refl, Int.toNat_natCast, g0, wf_preprocess, ↓reduceIte, Nat.reduceEqDiff, reduceCtorEq, Nat.reduceAdd, Nat.reduceMul, Nat.reduceLeDiff, Nat.reduceLT, Nat.reduceSub, Int.reduceToNat, Int.reduceNeg, Int.reduceAdd, Int.reduceSub, Int.reduceMul, Int.reduceEq, Int.reduceLT, Int.reduceLE, Int.reduceNe, forall_const, forall_eq', forall_eq, List.forall_mem_cons, List.not_mem_nil]
            have dNM : N ≠ M := new_ne gM nN
            have dNS : N ≠ S := new_ne gS nN
            have dNK : N ≠ K := new_ne gK nN
            have gM := xN _ _ gM (by simp)
            have gS := xN _ _ gS (by simp)
            have gK := xN _ _ gK (by simp)
            have nN0 : N ∉ keys m := Ext.isNew emMSK nN (by simp)
            have emMSKN : Ext [] m mMSKN := emMSK.trans xN
            refine fresh_i fun T nT => ?_
            simp only [wf_preprocess, ↓reduceIte, Nat.reduceEqDiff, reduceCtorEq, Nat.reduceAdd, Nat.reduceMul, Nat.reduceLeDiff, Nat.reduceLT, Nat.reduceSub, Int.reduceToNat, Int.reduceNeg, Int.reduceAdd, Int.reduceSub, Int.reduceMul, Int.reduceEq, Int.reduceLT, Int.reduceLE, Int.reduceNe, forall_const, forall_eq', forall_eq, List.forall_mem_cons, List.not_mem_nil]
            have eT : Ext [] mMSKN ((T, _) :: mMSKN) := .new (ob := .cells [.mref N 0 L.length cN, .mapp M, .mref K 0 L.length L.length, .lst [] .nil, .lst [] .nil, .mref S 0 L.length L.length]) nT
            have dTM : T ≠ M := new_ne gM nT
            have dTS : T ≠ S := new_ne gS nT
            have dTK : T ≠ K := new_ne gK nT
            have dTN : T ≠ N := new_ne gN nT
            refine ⟨T, N, cN, M, K, S, r, ⟨get_new, eT _ _ gN (by simp), eT _ _ gM (by simp), eT _ _ gK (by simp), eT _ _ gS (by simp), ?_, ?_, emMSKN.trans eT⟩, ?_, ?_⟩
            · simp only [List.nodup_cons, List.mem_cons, List.not_mem_nil, or_false, not_or, not_false_eq_true, and_true, List.nodup_nil, true_and]
              exact ⟨⟨dTN, dTM, dTK, dTS⟩, ⟨dNM, dNK, dNS⟩, ⟨dKM.symm, dSM.symm⟩, dKS⟩
            · intro x hx
              simp only [List.mem_cons, List.not_mem_nil, or_false] at hx
              rcases hx with rfl | rfl | rfl | rfl | rfl
              · exact Ext.isNew emMSKN nT (by simp)
              · exact nN0
              · exact nM0
              · exact nK0
              · exact nS0
            · simp only [wf_preprocess, ↓reduceIte, Nat.reduceEqDiff, reduceCtorEq, Nat.reduceAdd, Nat.reduceMul, Nat.reduceLeDiff, Nat.reduceLT, Nat.reduceSub, Int.reduceToNat, Int.reduceNeg, Int.reduceAdd, Int.reduceSub, Int.reduceMul, Int.reduceEq, Int.reduceLT, Int.reduceLE, Int.reduceNe, forall_const, forall_eq', forall_eq, List.forall_mem_cons, List.not_mem_nil]
            · simp only [g0, wf_preprocess, ↓reduceIte, Nat.reduceEqDiff, reduceCtorEq, Nat.reduceAdd, Nat.reduceMul, Nat.reduceLeDiff, Nat.reduceLT, Nat.reduceSub, Int.reduceToNat, Int.reduceNeg, Int.reduceAdd, Int.reduceSub, Int.reduceMul, Int.reduceEq, Int.reduceLT, Int.reduceLE, Int.reduceNe, forall_const, forall_eq', forall_eq, List.forall_mem_cons, List.not_mem_nil]
    · simp only [wf_preprocess, ↓reduceIte, Nat.reduceEqDiff, reduceCtorEq, Nat.reduceAdd, Nat.reduceMul, Nat.reduceLeDiff, Nat.reduceLT, Nat.reduceSub, Int.reduceToNat, Int.reduceNeg, Int.reduceAdd, Int.reduceSub, Int.reduceMul, Int.reduceEq, Int.reduceLT, Int.reduceLE, Int.reduceNe, forall_const, forall_eq', forall_eq, List.forall_mem_cons, List.not_mem_nil]
      refine ⟨stop_i ?_, stop_i ?_⟩
      · simp only [onLst_len hL, hz1, hz2, hz3, Int.natCast_nonneg, Int.le_refl, Int.toNat_natCast, g0, wf_preprocess, ↓reduceIte, Nat.reduceEqDiff, reduceCtorEq, Nat.reduceAdd, Nat.reduceMul, Nat.reduceLeDiff, Nat.reduceLT, Nat.reduceSub, Int.reduceToNat, Int.reduceNeg, Int.reduceAdd, Int.reduceSub, Int.reduceMul, Int.reduceEq, Int.reduceLT, Int.reduceLE, Int.reduceNe, forall_const, forall_eq', forall_eq, List.forall_mem_cons, List.not_mem_nil]
        refine fresh_i fun K nK => ?_
        try rw [hz0]
        have gK : get K ((K, AObj.cells (List.replicate L.length [AV.lst [] Own.nil]).flatten) :: m) = some (AObj.cells (List.replicate L.length [AV.lst [] Own.nil]).flatten) := get_new
        have xK : Ext [] m ((K, AObj.cells (List.replicate L.length [AV.lst [] Own.nil]).flatten) :: m) := .new nK
        simp only [onLst_len hL, hz1, hz2, hz3, Int.natCast_nonneg, Int.le_refl, Int.toNat_natCast, g0, wf_preprocess, ↓reduceIte, Nat.reduceEqDiff, reduceCtorEq, Nat.reduceAdd, Nat.reduceMul, Nat.reduceLeDiff, Nat.reduceLT, Nat.reduceSub, Int.reduceToNat, Int.reduceNeg, Int.reduceAdd, Int.reduceSub, Int.reduceMul, Int.reduceEq, Int.reduceLT, Int.reduceLE, Int.reduceNe, forall_const, forall_eq', forall_eq, List.forall_mem_cons, List.not_mem_nil]
        generalize ((K, AObj.cells (List.replicate L.length [AV.lst [] Own.nil]).flatten) :: m) = mK at *
        have nK0 : K ∉ keys m := Ext.isNew em nK (by simp)
        have emK : Ext [] m mK := em.trans xK
        refine ⟨stop_i ?_, stop_i ?_⟩
        · simp only [onLst_len hL, hz1, hz2, hz3, Int.natCast_nonneg, Int.le_refl, Int.toNat_natCast, g0, wf_preprocess, ↓reduceIte, Nat.reduceEqDiff, reduceCtorEq, Nat.reduceAdd, Nat.reduceMul, Nat.reduceLeDiff, Nat.reduceLT, Nat.reduceSub, Int.reduceToNat, Int.reduceNeg, Int.reduceAdd, Int.reduceSub, Int.reduceMul, Int.reduceEq, Int.reduceLT, Int.reduceLE, Int.reduceNe, forall_const, forall_eq', forall_eq, List.forall_mem_cons, List.not_mem_nil]
          refine call_i (CloneN_s hI h0 (by omega) fun N cN r mKN gN xN nN => ?_)
          simp only [onLst_len hL, hz1, hz2, hz3, Int.natCast_nonneg, Int.le_refl, Int.toNat_natCast, g0, wf_preprocess, ↓reduceIte, Nat.reduceEqDiff, reduceCtorEq, Nat.reduceAdd, Nat.reduceMul, Nat.reduceLeDiff, Nat.reduceLT, Nat.reduceSub, Int.reduceToNat, Int.reduceNeg, Int.reduceAdd, Int.reduceSub, Int.reduceMul, Int.reduceEq, Int.reduceLT, Int.reduceLE, Int.reduceNe, forall_const, forall_eq', forall_eq, List.forall_mem_cons, List.not_mem_nil]
          have dNK : N ≠ K := new_ne gK nN
          have gK := xN _ _ gK (by simp)
          have nN0 : N ∉ keys m := Ext.isNew emK nN (by simp)
          have emKN : Ext [] m mKN := emK.trans xN
          refine ⟨stop_i ?_, stop_i ?_⟩
          · simp only [onLst_len hL, hz1, hz2, hz3, Int.natCast_nonneg, Int.le_refl, Int.toNat_natCast, g0, wf_preprocess, ↓reduceIte, Nat.reduceEqDiff, reduceCtorEq, Nat.reduceAdd, Nat.reduceMul, Nat.reduceLeDiff, Nat.reduceLT, Nat.reduceSub, Int.reduceToNat, Int.reduceNeg, Int.reduceAdd, Int.reduceSub, Int.reduceMul, Int.reduceEq, Int.reduceLT, Int.reduceLE, Int.reduceNe, forall_const, forall_eq', forall_eq, List.forall_mem_cons, List.not_mem_nil]
            refine fresh_i fun M nM => ?_
            try rw [hz0]
            have gM : get M ((M, AObj.amap []) :: mKN) = some (AObj.amap []) := get_new
            have xM : Ext [] mKN ((M, AObj.amap []) :: mKN) := .new nM
            simp only [onLst_len hL, hz1, hz2, hz3, Int.natCast_nonneg, Int.le_refl, Int.toNat_natCast, g0, wf_preprocess, ↓reduceIte, Nat.reduceEqDiff, reduceCtorEq, Nat.reduceAdd, Nat.reduceMul, Nat.reduceLeDiff, Nat.reduceLT, Nat.reduceSub, Int.reduceToNat, Int.reduceNeg, Int.reduceAdd, Int.reduceSub, Int.reduceMul, Int.reduceEq, Int.reduceLT, Int.reduceLE, Int.reduceNe, forall_const, forall_eq', forall_eq, List.forall_mem_cons, List.not_mem_nil]
            generalize ((M, AObj.amap []) :: mKN) = mKNM at *
            have dMK : M ≠ K := new_ne gK nM
            have dMN : M ≠ N := new_ne gN nM
            have gK := xM _ _ gK (by simp)
            have gN := xM _ _ gN (by simp)
            have nM0 : M ∉ keys m := Ext.isNew emKN nM (by simp)
            have emKNM : Ext [] m mKNM := emKN.trans xM
            refine fresh_i fun S nS => ?_
            try rw [hz0]
            have gS : get S ((S, AObj.cells (List.replicate L.length [AV.sc (Value.int IntKind.i64 0), AV.sc (Value.int IntKind.i64 0)]).flatten) :: mKNM) = some (AObj.cells (List.replicate L.length [AV.sc (Value.int IntKind.i64 0), AV.sc (Value.int IntKind.i64 0)]).flatten) := get_new
            have xS : Ext [] mKNM ((S, AObj.cells (List.replicate L.length [AV.sc (Value.int IntKind.i64 0), AV.sc (Value.int IntKind.i64 0)]).flatten) :: mKNM) := .new nS
            simp only [onLst_len hL, hz1, hz2, hz3, Int.natCast_nonneg, Int.le_refl, Int.toNat_natCast, g0, wf_preprocess, ↓reduceIte, Nat.reduceEqDiff, reduceCtorEq, Nat.reduceAdd, Nat.reduceMul, Nat.reduceLeDiff, Nat.reduceLT, Nat.reduceSub, Int.reduceToNat, Int.reduceNeg, Int.reduceAdd, Int.reduceSub, Int.reduceMul, Int.reduceEq, Int.reduceLT, Int.reduceLE, Int.reduceNe, forall_const, forall_eq', forall_eq, List.forall_mem_cons, List.not_mem_nil]
            generalize ((S, AObj.cells (List.replicate L.length [AV.sc (Value.int IntKind.i64 0), AV.sc (Value.int IntKind.i64 0)]).flatten) :: mKNM) = mKNMS at *
            have dSK : S ≠ K := new_ne gK nS
            have dSN : S ≠ N := new_ne gN nS
            have dSM : S ≠ M := new_ne gM nS
            have gK := xS _ _ gK (by simp)
            have gN := xS _ _ gN (by simp)
            have gM := xS _ _ gM (by simp)
            have nS0 : S ∉ keys m := Ext.isNew emKNM nS (by simp)
            have emKNMS : Ext [] m mKNMS := emKNM.trans xS
            refine fresh_i fun T nT => ?_
            simp only [wf_preprocess, ↓reduceIte, Nat.reduceEqDiff, reduceCtorEq, Nat.reduceAdd, Nat.reduceMul, Nat.reduceLeDiff, Nat.reduceLT, Nat.reduceSub, Int.reduceToNat, Int.reduceNeg, Int.reduceAdd, Int.reduceSub, Int.reduceMul, Int.reduceEq, Int.reduceLT, Int.reduceLE, Int.reduceNe, forall_const, forall_eq', forall_eq, List.forall_mem_cons, List.not_mem_nil]
            have eT : Ext [] mKNMS ((T, _) :: mKNMS) := .new (ob := .cells [.mref N 0 L.length cN, .mapp M, .mref K 0 L.length L.length, .lst [] .nil, .lst [] .nil, .mref S 0 L.length L.length]) nT
            have dTK : T ≠ K := new_ne gK nT
            have dTN : T ≠ N := new_ne gN nT
            have dTM : T ≠ M := new_ne gM nT
            have dTS : T ≠ S := new_ne gS nT
            refine ⟨T, N, cN, M, K, S, r, ⟨get_new, eT _ _ gN (by simp), eT _ _ gM (by simp), eT _ _ gK (by simp), eT _ _ gS (by simp), ?_, ?_, emKNMS.trans eT⟩, ?_, ?_⟩
            · simp only [List.nodup_cons, List.mem_cons, List.not_mem_nil, or_false, not_or, not_false_eq_true, and_true, List.nodup_nil, true_and]
              exact ⟨⟨dTN, dTM, dTK, dTS⟩, ⟨dMN.symm, dNK, dSN.symm⟩, ⟨dMK, dSM.symm⟩, dSK.symm⟩
            · intro x hx
              simp only [List.mem_cons, List.not_mem_nil, or_false] at hx
              rcases hx with rfl | rfl | rfl | rfl | rfl
              · exact Ext.isNew emKNMS nT (by simp)
              · exact nN0
              · exact nM0
              · exact nK0
              · exact nS0
            · simp only [wf_preprocess, ↓reduceIte, Nat.reduceEqDiff, reduceCtorEq, Nat.reduceAdd, Nat.reduceMul, Nat.reduceLeDiff, Nat.reduceLT, Nat.reduceSub, Int.reduceToNat, Int.reduceNeg, Int.reduceAdd, Int.reduceSub, Int.reduceMul, Int.reduceEq, Int.reduceLT, Int.reduceLE, Int.reduceNe, forall_const, forall_eq', forall_eq, List.forall_mem_cons, List.not_mem_nil]
            · simp only [g0, wf_preprocess, ↓reduceIte, Nat.reduceEqDiff, reduceCtorEq, Nat.reduceAdd, Nat.reduceMul, Nat.reduceLeDiff, Nat.reduceLT, Nat.reduceSub, Int.reduceToNat, Int.reduceNeg, Int.reduceAdd, Int.reduceSub, Int.reduceMul, Int.reduceEq, Int.reduceLT, Int.reduceLE, Int.reduceNe, forall_const, forall_eq', forall_eq, List.forall_mem_cons, List.not_mem_nil]
          · simp only [onLst_len hL, hz1, hz2, hz3, Int.natCast_nonneg, Int.le_refl, Int.toNat_natCast, g0, wf_preprocess, ↓reduceIte, Nat.reduceEqDiff, reduceCtorEq, Nat.reduceAdd, Nat.reduceMul, Nat.reduceLeDiff, Nat.reduceLT, Nat.reduceSub, Int.reduceToNat, Int.reduceNeg, Int.reduceAdd, Int.reduceSub, Int.reduceMul, Int.reduceEq, Int.reduceLT, Int.reduceLE, Int.reduceNe, forall_const, forall_eq', forall_eq, List.forall_mem_cons, List.not_mem_nil]
            refine fresh_i fun S nS => ?_
            try rw [hz0]
            have gS : get S ((S, AObj.cells (List.replicate L.length [AV.sc (Value.int IntKind.i64 0), AV.sc (Value.int IntKind.i64 0)]).flatten) :: mKN) = some (AObj.cells (List.replicate L.length [AV.sc (Value.int IntKind.i64 0), AV.sc (Value.int IntKind.i64 0)]).flatten) := get_new
            have xS : Ext [] mKN ((S, AObj.cells (List.replicate L.length [AV.sc (Value.int IntKind.i64 0), AV.sc (Value.int IntKind.i64 0)]).flatten) :: mKN) := .new nS
            simp only [onLst_len hL, hz1, hz2, hz3, Int.natCast_nonneg, Int.le_refl, Int.toNat_natCast, g0, wf_preprocess, ↓reduceIte, Nat.reduceEqDiff, reduceCtorEq, Nat.reduceAdd, Nat.reduceMul, Nat.reduceLeDiff, Nat.reduceLT, Nat.reduceSub, Int.reduceToNat, Int.reduceNeg, Int.reduceAdd, Int.reduceSub, Int.reduceMul, Int.reduceEq, Int.reduceLT, Int.reduceLE, Int.reduceNe, forall_const, forall_eq', forall_eq, List.forall_mem_cons, List.not_mem_nil]
            generalize ((S, AObj.cells (List.replicate L.length [AV.sc (Value.int IntKind.i64 0), AV.sc (Value.int IntKind.i64 0)]).flatten) :: mKN) = mKNS at *
            have dSK : S ≠ K := new_ne gK nS
            have dSN : S ≠ N := new_ne gN nS
            have gK := xS _ _ gK (by simp)
            have gN := xS _ _ gN (by simp)
            have nS0 : S ∉ keys m := Ext.isNew emKN nS (by simp)
            have emKNS : Ext [] m mKNS := emKN.trans xS
            refine fresh_i fun M nM => ?_
            try rw [hz0]
            have gM : get M ((M, AObj.amap []) :: mKNS) = some (AObj.amap []) := get_new
            have xM : Ext [] mKNS ((M, AObj.amap []) :: mKNS) := .new nM
            simp only [onLst_len hL, hz1, hz2, hz3, Int.natCast_nonneg, Int.le_refl, Int.toNat_natCast, g0, wf_preprocess, ↓reduceIte, Nat.reduceEqDiff, reduceCtorEq, Nat.reduceAdd, Nat.reduceMul, Nat.reduceLeDiff, Nat.reduceLT, Nat.reduceSub, Int.reduceToNat, Int.reduceNeg, Int.reduceAdd, Int.reduceSub, Int.reduceMul, Int.reduceEq, Int.reduceLT, Int.reduceLE, Int.reduceNe, forall_const, forall_eq', forall_eq, List.forall_mem_cons, List.not_mem_nil]
            generalize ((M, AObj.amap []) :: mKNS) = mKNSM at *
            have dMK : M ≠ K := new_ne gK nM
            have dMN : M ≠ N := new_ne gN nM
            have dMS : M ≠ S := new_ne gS nM
            have gK := xM _ _ gK (by simp)
            have gN := xM _ _ gN (by simp)
            have gS := xM _ _ gS (by simp)
            have nM0 : M ∉ keys m := Ext.isNew emKNS nM (by simp)
            have emKNSM : Ext [] m mKNSM := emKNS.trans xM
            refine fresh_i fun T nT => ?_
            simp only [wf_preprocess, ↓reduceIte, Nat.reduceEqDiff, reduceCtorEq, Nat.reduceAdd, Nat.reduceMul, Nat.reduceLeDiff, Nat.reduceLT, Nat.reduceSub, Int.reduceToNat, Int.reduceNeg, Int.reduceAdd, Int.reduceSub, Int.reduceMul, Int.reduceEq, Int.reduceLT, Int.reduceLE, Int.reduceNe, forall_const, forall_eq', forall_eq, List.forall_mem_cons, List.not_mem_nil]
            have eT : Ext [] mKNSM ((T, _) :: mKNSM) := .new (ob := .cells [.mref N 0 L.length cN, .mapp M, .mref K 0 L.length L.length, .lst [] .nil, .lst [] .nil, .mref S 0 L.length L.length]) nT
            have dTK : T ≠ K := new_ne gK nT
            have dTN : T ≠ N := new_ne gN nT
            have dTS : T ≠ S := new_ne gS nT
            have dTM : T ≠ M := new_ne gM nT
            refine ⟨T, N, cN, M, K, S, r, ⟨get_new, eT _ _ gN (by simp), eT _ _ gM (by simp), eT _ _ gK (by simp), eT _ _ gS (by simp), ?_, ?_, emKNSM.trans eT⟩, ?_, ?_⟩
            · simp only [List.nodup_cons, List.mem_cons, List.not_mem_nil, or_false, not_or, not_false_eq_true, and_true, List.nodup_nil, true_and]
              exact ⟨⟨dTN, dTM, dTK, dTS⟩, ⟨dMN.symm, dNK, dSN.symm⟩, ⟨dMK, dMS⟩, dSK.symm⟩
            · intro x hx
              simp only [List.mem_cons, List.not_mem_nil, or_false] at hx
              rcases hx with rfl | rfl | rfl | rfl | rfl
              · exact Ext.isNew emKNSM nT (by simp)
              · exact nN0
              · exact nM0
              · exact nK0
              · exact nS0
            · simp only [wf_preprocess, ↓reduceIte, Nat.reduceEqDiff, reduceCtorEq, Nat.reduceAdd, Nat.reduceMul, Nat.reduceLeDiff, Nat.reduceLT, Nat.reduceSub, Int.reduceToNat, Int.reduceNeg, Int.reduceAdd, Int.reduceSub, Int.reduceMul, Int.reduceEq, Int.reduceLT, Int.reduceLE, Int.reduceNe, forall_const, forall_eq', forall_eq, List.forall_mem_cons, List.not_mem_nil]
            · simp only [g0, wf_preprocess, ↓reduceIte, Nat.reduceEqDiff, reduceCtorEq, Nat.reduceAdd, Nat.reduceMul, Nat.reduceLeDiff, Nat.reduceLT, Nat.reduceSub, Int.reduceToNat, Int.reduceNeg, Int.reduceAdd, Int.reduceSub, Int.reduceMul, Int.reduceEq, Int.reduceLT, Int.reduceLE, Int.reduceNe, forall_const, forall_eq', forall_eq, List.forall_mem_cons, List.not_mem_nil]
        · simp only [wf_preprocess, ↓reduceIte, Nat.reduceEqDiff, reduceCtorEq, Nat.reduceAdd, Nat.reduceMul, Nat.reduceLeDiff, Nat.reduceLT, Nat.reduceSub, Int.reduceToNat, Int.reduceNeg, Int.reduceAdd, Int.reduceSub, Int.reduceMul, Int.reduceEq, Int.reduceLT, Int.reduceLE, Int.reduceNe, forall_const, forall_eq', forall_eq, List.forall_mem_cons, List.not_mem_nil]
          refine ⟨stop_i ?_, stop_i ?_⟩
          · simp only [onLst_len hL, hz1, hz2, hz3, Int.natCast_nonneg, Int.le_refl, Int.toNat_natCast, g0, wf_preprocess, ↓reduceIte, Nat.reduceEqDiff, reduceCtorEq, Nat.reduceAdd, Nat.reduceMul, Nat.reduceLeDiff, Nat.reduceLT, Nat.reduceSub, Int.reduceToNat, Int.reduceNeg, Int.reduceAdd, Int.reduceSub, Int.reduceMul, Int.reduceEq, Int.reduceLT, Int.reduceLE, Int.reduceNe, forall_const, forall_eq', forall_eq, List.forall_mem_cons, List.not_mem_nil]
            refine fresh_i fun M nM => ?_
            try rw [hz0]
            have gM : get M ((M, AObj.amap []) :: mK) = some (AObj.amap []) := get_new
            have xM : Ext [] mK ((M, AObj.amap []) :: mK) := .new nM
            simp only [onLst_len hL, hz1, hz2, hz3, Int.natCast_nonneg, Int.le_refl, Int.toNat_natCast, g0, wf_preprocess, ↓reduceIte, Nat.reduceEqDiff, reduceCtorEq, Nat.reduceAdd, Nat.reduceMul, Nat.reduceLeDiff, Nat.reduceLT, Nat.reduceSub, Int.reduceToNat, Int.reduceNeg, Int.reduceAdd, Int.reduceSub, Int.reduceMul, Int.reduceEq, Int.reduceLT, Int.reduceLE, Int.reduceNe, forall_const, forall_eq', forall_eq, List.forall_mem_cons, List.not_mem_nil]
            generalize ((M, AObj.amap []) :: mK) = mKM at *
            have dMK : M ≠ K := new_ne gK nM
            have gK := xM _ _ gK (by simp)
            have nM0 : M ∉ keys m := Ext.isNew emK nM (by simp)
            have emKM : Ext [] m mKM := emK.trans xM
            refine ⟨stop_i ?_, stop_i ?_⟩
            · simp only [onLst_len hL, hz1, hz2, hz3, Int.natCast_nonneg, Int.le_refl, Int.toNat_natCast, g0, wf_preprocess, ↓reduceIte, Nat.reduceEqDiff, reduceCtorEq, Nat.reduceAdd, Nat.reduceMul, Nat.reduceLeDiff, Nat.reduceLT, Nat.reduceSub, Int.reduceToNat, Int.reduceNeg, Int.reduceAdd, Int.reduceSub, Int.reduceMul, Int.reduceEq, Int.reduceLT, Int.reduceLE, Int.reduceNe, forall_const, forall_eq', forall_eq, List.forall_mem_cons, List.not_mem_nil]
              refine call_i (CloneN_s hI h0 (by omega) fun N cN r mKMN gN xN nN => ?_)
              simp only [onLst_len hL, hz1, hz2, hz3, Int.natCast_nonneg, Int.le_refl, Int.toNat_natCast, g0, wf_preprocess, ↓reduceIte, Nat.reduceEqDiff, reduceCtorEq, Nat.reduceAdd, Nat.reduceMul, Nat.reduceLeDiff, Nat.reduceLT, Nat.reduceSub, Int.reduceToNat, Int.reduceNeg, Int.reduceAdd, Int.reduceSub, Int.reduceMul, Int.reduceEq, Int.reduceLT, Int.reduceLE, Int.reduceNe, forall_const, forall_eq', forall_eq, List.forall_mem_cons, List.not_mem_nil]
              have dNK : N ≠ K := new_ne gK nN
              have dNM : N ≠ M := new_ne gM nN
              have gK := xN _ _ gK (by simp)
              have gM := xN _ _ gM (by simp)
              have nN0 : N ∉ keys m := Ext.isNew emKM nN (by simp)
              have emKMN : Ext [] m mKMN := emKM.trans xN
              refine fresh_i fun S nS => ?_
              try rw [hz0]
              have gS : get S ((S, AObj.cells (List.replicate L.length [AV.sc (Value.int IntKind.i64 0), AV.sc (Value.int IntKind.i64 0)]).flatten) :: mKMN) = some (AObj.cells (List.replicate L.length [AV.sc (Value.int IntKind.i64 0), AV.sc (Value.int IntKind.i64 0)]).flatten) := get_new
              have xS : Ext [] mKMN ((S, AObj.cells (List.replicate L.length [AV.sc (Value.int IntKind.i64 0), AV.sc (Value.int IntKind.i64 0)]).flatten) :: mKMN) := .new nS
              simp only [onLst_len hL, hz1, hz2, hz3, Int.natCast_nonneg, Int.le_refl, Int.toNat_natCast, g0, wf_preprocess, ↓reduceIte, Nat.reduceEqDiff, reduceCtorEq, Nat.reduceAdd, Nat.reduceMul, Nat.reduceLeDiff, Nat.reduceLT, Nat.reduceSub, Int.reduceToNat, Int.reduceNeg, Int.reduceAdd, Int.reduceSub, Int.reduceMul, Int.reduceEq, Int.reduceLT, Int.reduceLE, Int.reduceNe, forall_const, forall_eq', forall_eq, List.forall_mem_cons, List.not_mem_nil]
              generalize ((S, AObj.cells (List.replicate L.length [AV.sc (Value.int IntKind.i64 0), AV.sc (Value.int IntKind.i64 0)]).flatten) :: mKMN) = mKMNS at *
              have dSK : S ≠ K := new_ne gK nS
              have dSM : S ≠ M := new_ne gM nS
              have dSN : S ≠ N := new_ne gN nS
              have gK := xS _ _ gK (by simp)
              have gM := xS _ _ gM (by simp)
              have gN := xS _ _ gN (by simp)
              have nS0 : S ∉ keys m := Ext.isNew emKMN nS (by simp)
              have emKMNS : Ext [] m mKMNS := emKMN.trans xS
              refine fresh_i fun T nT => ?_
              simp only [wf_preprocess, ↓reduceIte, Nat.reduceEqDiff, reduceCtorEq, Nat.reduceAdd, Nat.reduceMul, Nat.reduceLeDiff, Nat.reduceLT, Nat.reduceSub, Int.reduceToNat, Int.reduceNeg, Int.reduceAdd, Int.reduceSub, Int.reduceMul, Int.reduceEq, Int.reduceLT, Int.reduceLE, Int.reduceNe, forall_const, forall_eq', forall_eq, List.forall_mem_cons, List.not_mem_nil]
              have eT : Ext [] mKMNS ((T, _) :: mKMNS) := .new (ob := .cells [.mref N 0 L.length cN, .mapp M, .mref K 0 L.length L.length, .lst [] .nil, .lst [] .nil, .mref S 0 L.length L.length]) nT
              have dTK : T ≠ K := new_ne gK nT
              have dTM : T ≠ M := new_ne gM nT
              have dTN : T ≠ N := new_ne gN nT
              have dTS : T ≠ S := new_ne gS nT
              refine ⟨T, N, cN, M, K, S, r, ⟨get_new, eT _ _ gN (by simp), eT _ _ gM (by simp), eT _ _ gK (by simp), eT _ _ gS (by simp), ?_, ?_, emKMNS.trans eT⟩, ?_, ?_⟩
              · simp only [List.nodup_cons, List.mem_cons, List.not_mem_nil, or_false, not_or, not_false_eq_true, and_true, List.nodup_nil, true_and]
                exact ⟨⟨dTN, dTM, dTK, dTS⟩, ⟨dNM, dNK, dSN.symm⟩, ⟨dMK, dSM.symm⟩, dSK.symm⟩
              · intro x hx
                simp only [List.mem_cons, List.not_mem_nil, or_false] at hx
                rcases hx with rfl | rfl | rfl | rfl | rfl
                · exact Ext.isNew emKMNS nT (by simp)
                · exact nN0
                · exact nM0
                · exact nK0
                · exact nS0
              · simp only [wf_preprocess, ↓reduceIte, Nat.reduceEqDiff, reduceCtorEq, Nat.reduceAdd, Nat.reduceMul, Nat.reduceLeDiff, Nat.reduceLT, Nat.reduceSub, Int.reduceToNat, Int.reduceNeg, Int.reduceAdd, Int.reduceSub, Int.reduceMul, Int.reduceEq, Int.reduceLT, Int.reduceLE, Int.reduceNe, forall_const, forall_eq', forall_eq, List.forall_mem_cons, List.not_mem_nil]
              · simp only [g0, wf_preprocess, ↓reduceIte, Nat.reduceEqDiff, reduceCtorEq, Nat.reduceAdd, Nat.reduceMul, Nat.reduceLeDiff, Nat.reduceLT, Nat.reduceSub, Int.reduceToNat, Int.reduceNeg, Int.reduceAdd, Int.reduceSub, Int.reduceMul, Int.reduceEq, Int.reduceLT, Int.reduceLE, Int.reduceNe, forall_const, forall_eq', forall_eq, List.forall_mem_cons, List.not_mem_nil]
            · simp only [onLst_len hL, hz1, hz2, hz3, Int.natCast_nonneg, Int.le_refl, Int.toNat_natCast, g0, wf_preprocess, ↓reduceIte, Nat.reduceEqDiff, reduceCtorEq, Nat.reduceAdd, Nat.reduceMul, Nat.reduceLeDiff, Nat.reduceLT, Nat.reduceSub, Int.reduceToNat, Int.reduceNeg, Int.reduceAdd, Int.reduceSub, Int.reduceMul, Int.reduceEq, Int.reduceLT, Int.reduceLE, Int.reduceNe, forall_const, forall_eq', forall_eq, List.forall_mem_cons, List.not_mem_nil]
              refine fresh_i fun S nS => ?_
              try rw [hz0]
              have gS : get S ((S, AObj.cells (List.replicate L.length [AV.sc (Value.int IntKind.i64 0), AV.sc (Value.int IntKind.i64 0)]).flatten) :: mKM) = some (AObj.cells (List.replicate L.length [AV.sc (Value.int IntKind.i64 0), AV.sc (Value.int IntKind.i64 0)]).flatten) := get_new
              have xS : Ext [] mKM ((S, AObj.cells (List.replicate L.length [AV.sc (Value.int IntKind.i64 0), AV.sc (Value.int IntKind.i64 0)]).flatten) :: mKM) := .new nS
              simp only [onLst_len hL, hz1, hz2, hz3, Int.natCast_nonneg, Int.le_refl, Int.toNat_natCast, g0, wf_preprocess, ↓reduceIte, Nat.reduceEqDiff, reduceCtorEq, Nat.reduceAdd, Nat.reduceMul, Nat.reduceLeDiff, Nat.reduceLT, Nat.reduceSub, Int.reduceToNat, Int.reduceNeg, Int.reduceAdd, Int.reduceSub, Int.reduceMul, Int.reduceEq, Int.reduceLT, Int.reduceLE, Int.reduceNe, forall_const, forall_eq', forall_eq, List.forall_mem_cons, List.not_mem_nil]
              generalize ((S, AObj.cells (List.replicate L.length [AV.sc (Value.int IntKind.i64 0), AV.sc (Value.int IntKind.i64 0)]).flatten) :: mKM) = mKMS at *
              have dSK : S ≠ K := new_ne gK nS
              have dSM : S ≠ M := new_ne gM nS
              have gK := xS _ _ gK (by simp)
              have gM := xS _ _ gM (by simp)
              have nS0 : S ∉ keys m := Ext.isNew emKM nS (by simp)
              have emKMS : Ext [] m mKMS := emKM.trans xS
              refine call_i (CloneN_s hI h0 (by omega) fun N cN r mKMSN gN xN nN => ?_)
              simp only [onLst_len hL, hz1, hz2, hz3, Int.natCast_nonneg, Int.le_refl, Int.toNat_natCast, g0, wf_preprocess, ↓reduceIte, Nat.reduceEqDiff, reduceCtorEq, Nat.reduceAdd, Nat.reduceMul, Nat.reduceLeDiff, Nat.reduceLT, Nat.reduceSub, Int.reduceToNat, Int.reduceNeg, Int.reduceAdd, Int.reduceSub, Int.reduceMul, Int.reduceEq, Int.reduceLT, Int.reduceLE, Int.reduceNe, forall_const, forall_eq', forall_eq, List.forall_mem_cons, List.not_mem_nil]
              have dNK : N ≠ K := new_ne gK nN
              have dNM : N ≠ M := new_ne gM nN
              have dNS : N ≠ S := new_ne gS nN
              have gK := xN _ _ gK (by simp)
              have gM := xN _ _ gM (by simp)
              have gS := xN _ _ gS (by simp)
              have nN0 : N ∉ keys m := Ext.isNew emKMS nN (by simp)
              have emKMSN : Ext [] m mKMSN := emKMS.trans xN
              refine fresh_i fun T nT => ?_
              simp only [wf_preprocess, ↓reduceIte, Nat.reduceEqDiff, reduceCtorEq, Nat.reduceAdd, Nat.reduceMul, Nat.reduceLeDiff, Nat.reduceLT, Nat.reduceSub, Int.reduceToNat, Int.reduceNeg, Int.reduceAdd, Int.reduceSub, Int.reduceMul, Int.reduceEq, Int.reduceLT, Int.reduceLE, Int.reduceNe, forall_const, forall_eq', forall_eq, List.forall_mem_cons, List.not_mem_nil]
              have eT : Ext [] mKMSN ((T, _) :: mKMSN) := .new (ob := .cells [.mref N 0 L.length cN, .mapp M, .mref K 0 L.length L.length, .lst [] .nil, .lst [] .nil, .mref S 0 L.length L.length]) nT
              have dTK : T ≠ K := new_ne gK nT
              have dTM : T ≠ M := new_ne gM nT
              have dTS : T ≠ S := new_ne gS nT
              have dTN : T ≠ N := new_ne gN nT
              refine ⟨T, N, cN, M, K, S, r, ⟨get_new, eT _ _ gN (by simp), eT _ _ gM (by simp), eT _ _ gK (by simp), eT _ _ gS (by simp), ?_, ?_, emKMSN.trans eT⟩, ?_, ?_⟩
              · simp only [List.nodup_cons, List.mem_cons, List.not_mem_nil, or_false, not_or, not_false_eq_true, and_true, List.nodup_nil, true_and]
                exact ⟨⟨dTN, dTM, dTK, dTS⟩, ⟨dNM, dNK, dNS⟩, ⟨dMK, dSM.symm⟩, dSK.symm⟩
              · intro x hx
                simp only [List.mem_cons, List.not_mem_nil, or_false] at hx
                rcases hx with rfl | rfl | rfl | rfl | rfl
                · exact Ext.isNew emKMSN nT (by simp)
                · exact nN0
                · exact nM0
                · exact nK0
                · exact nS0
              · simp only [wf_preprocess, ↓reduceIte, Nat.reduceEqDiff, reduceCtorEq, Nat.reduceAdd, Nat.reduceMul, Nat.reduceLeDiff, Nat.reduceLT, Nat.reduceSub, Int.reduceToNat, Int.reduceNeg, Int.reduceAdd, Int.reduceSub, Int.reduceMul, Int.reduceEq, Int.reduceLT, Int.reduceLE, Int.reduceNe, forall_const, forall_eq', forall_eq, List.forall_mem_cons, List.not_mem_nil]
              · simp only [g0, wf_preprocess, ↓reduceIte, Nat.reduceEqDiff, reduceCtorEq, Nat.reduceAdd, Nat.reduceMul, Nat.reduceLeDiff, Nat.reduceLT, Nat.reduceSub, Int.reduceToNat, Int.reduceNeg, Int.reduceAdd, Int.reduceSub, Int.reduceMul, Int.reduceEq, Int.reduceLT, Int.reduceLE, Int.reduceNe, forall_const, forall_eq', forall_eq, List.forall_mem_cons, List.not_mem_nil]
          · simp only [onLst_len hL, hz1, hz2, hz3, Int.natCast_nonneg, Int.le_refl, Int.toNat_natCast, g0, wf_preprocess, ↓reduceIte, Nat.reduceEqDiff, reduceCtorEq, Nat.reduceAdd, Nat.reduceMul, Nat.reduceLeDiff, Nat.reduceLT, Nat.reduceSub, Int.reduceToNat, Int.reduceNeg, Int.reduceAdd, Int.reduceSub, Int.reduceMul, Int.reduceEq, Int.reduceLT, Int.reduceLE, Int.reduceNe, forall_const, forall_eq', forall_eq, List.forall_mem_cons, List.not_mem_nil]
            refine fresh_i fun S nS => ?_
            try rw [hz0]
            have gS : get S ((S, AObj.cells (List.replicate L.length [AV.sc (Value.int IntKind.i64 0), AV.sc (Value.int IntKind.i64 0)]).flatten) :: mK) = some (AObj.cells (List.replicate L.length [AV.sc (Value.int IntKind.i64 0), AV.sc (Value.int IntKind.i64 0)]).flatten) := get_new
            have xS : Ext [] mK ((S, AObj.cells (List.replicate L.length [AV.sc (Value.int IntKind.i64 0), AV.sc (Value.int IntKind.i64 0)]).flatten) :: mK) := .new nS
            simp only [onLst_len hL, hz1, hz2, hz3, Int.natCast_nonneg, Int.le_refl, Int.toNat_natCast, g0, wf_preprocess, ↓reduceIte, Nat.reduceEqDiff, reduceCtorEq, Nat.reduceAdd, Nat.reduceMul, Nat.reduceLeDiff, Nat.reduceLT, Nat.reduceSub, Int.reduceToNat, Int.reduceNeg, Int.reduceAdd, Int.reduceSub, Int.reduceMul, Int.reduceEq, Int.reduceLT, Int.reduceLE, Int.reduceNe, forall_const, forall_eq', forall_eq, List.forall_mem_cons, List.not_mem_nil]
            generalize ((S, AObj.cells (List.replicate L.length [AV.sc (Value.int IntKind.i64 0), AV.sc (Value.int IntKind.i64 0)]).flatten) :: mK) = mKS at *
            have dSK : S ≠ K := new_ne gK nS
            have gK := xS _ _ gK (by simp)
            have nS0 : S ∉ keys m := Ext.isNew emK nS (by simp)
            have emKS : Ext [] m mKS := emK.trans xS
            refine ⟨stop_i ?_, stop_i ?_⟩
            · simp only [onLst_len hL, hz1, hz2, hz3, Int.natCast_nonneg, Int.le_refl, Int.toNat_natCast, g0, wf_preprocess, ↓reduceIte, Nat.reduceEqDiff, reduceCtorEq, Nat.reduceAdd, Nat.reduceMul, Nat.reduceLeDiff, Nat.reduceLT, Nat.reduceSub, Int.reduceToNat, Int.reduceNeg, Int.reduceAdd, Int.reduceSub, Int.reduceMul, Int.reduceEq, Int.reduceLT, Int.reduceLE, Int.reduceNe, forall_const, forall_eq', forall_eq, List.forall_mem_cons, List.not_mem_nil]
              refine call_i (CloneN_s hI h0 (by omega) fun N cN r mKSN gN xN nN => ?_)
              simp only [onLst_len hL, hz1, hz2, hz3, Int.natCast_nonneg, Int.le_refl, Int.toNat_natCast, g0, wf_preprocess, ↓reduceIte, Nat.reduceEqDiff, reduceCtorEq, Nat.reduceAdd, Nat.reduceMul, Nat.reduceLeDiff, Nat.reduceLT, Nat.reduceSub, Int.reduceToNat, Int.reduceNeg, Int.reduceAdd, Int.reduceSub, Int.reduceMul, Int.reduceEq, Int.reduceLT, Int.reduceLE, Int.reduceNe, forall_const, forall_eq', forall_eq, List.forall_mem_cons, List.not_mem_nil]
              have dNK : N ≠ K := new_ne gK nN
              have dNS : N ≠ S := new_ne gS nN
              have gK := xN _ _ gK (by simp)
              have gS := xN _ _ gS (by simp)
              have nN0 : N ∉ keys m := Ext.isNew emKS nN (by simp)
              have emKSN : Ext [] m mKSN := emKS.trans xN
              refine fresh_i fun M nM => ?_
              try rw [hz0]
              have gM : get M ((M, AObj.amap []) :: mKSN) = some (AObj.amap []) := get_new
              have xM : Ext [] mKSN ((M, AObj.amap []) :: mKSN) := .new nM
              simp only [onLst_len hL, hz1, hz2, hz3, Int.natCast_nonneg, Int.le_refl, Int.toNat_natCast, g0, wf_preprocess, ↓reduceIte, Nat.reduceEqDiff, reduceCtorEq, Nat.reduceAdd, Nat.reduceMul, Nat.reduceLeDiff, Nat.reduceLT, Nat.reduceSub, Int.reduceToNat, Int.reduceNeg, Int.reduceAdd, Int.reduceSub, Int.reduceMul, Int.reduceEq, Int.reduceLT, Int.reduceLE, Int.reduceNe, forall_const, forall_eq', forall_eq, List.forall_mem_cons, List.not_mem_nil]
              generalize ((M, AObj.amap []) :: mKSN) = mKSNM at *
              have dMK : M ≠ K := new_ne gK nM
              have dMS : M ≠ S := new_ne gS nM
              have dMN : M ≠ N := new_ne gN nM
              have gK := xM _ _ gK (by simp)
              have gS := xM _ _ gS (by simp)
              have gN := xM _ _ gN (by simp)
              have nM0 : M ∉ keys m := Ext.isNew emKSN nM (by simp)
              have emKSNM : Ext [] m mKSNM := emKSN.trans xM
              refine fresh_i fun T nT => ?_
              simp only [wf_preprocess, ↓reduceIte, Nat.reduceEqDiff, reduceCtorEq, Nat.reduceAdd, Nat.reduceMul, Nat.reduceLeDiff, Nat.reduceLT, Nat.reduceSub, Int.reduceToNat, Int.reduceNeg, Int.reduceAdd, Int.reduceSub, Int.reduceMul, Int.reduceEq, Int.reduceLT, Int.reduceLE, Int.reduceNe, forall_const, forall_eq', forall_eq, List.forall_mem_cons, List.not_mem_nil]
              have eT : Ext [] mKSNM ((T, _) :: mKSNM) := .new (ob := .cells [.mref N 0 L.length cN, .mapp M, .mref K 0 L.length L.length, .lst [] .nil, .lst [] .nil, .mref S 0 L.length L.length]) nT
              have dTK : T ≠ K := new_ne gK nT
              have dTS : T ≠ S := new_ne gS nT
              have dTN : T ≠ N := new_ne gN nT
              have dTM : T ≠ M := new_ne gM nT
              refine ⟨T, N, cN, M, K, S, r, ⟨get_new, eT _ _ gN (by simp), eT _ _ gM (by simp), eT _ _ gK (by simp), eT _ _ gS (by simp), ?_, ?_, emKSNM.trans eT⟩, ?_, ?_⟩
              · simp only [List.nodup_cons, List.mem_cons, List.not_mem_nil, or_false, not_or, not_false_eq_true, and_true, List.nodup_nil, true_and]
                exact ⟨⟨dTN, dTM, dTK, dTS⟩, ⟨dMN.symm, dNK, dNS⟩, ⟨dMK, dMS⟩, dSK.symm⟩
              · intro x hx
                simp only [List.mem_cons, List.not_mem_nil, or_false] at hx
                rcases hx with rfl | rfl | rfl | rfl | rfl
                · exact Ext.isNew emKSNM nT (by simp)
                · exact nN0
                · exact nM0
                · exact nK0
                · exact nS0
              · simp only [wf_preprocess, ↓reduceIte, Nat.reduceEqDiff, reduceCtorEq, Nat.reduceAdd, Nat.reduceMul, Nat.reduceLeDiff, Nat.reduceLT, Nat.reduceSub, Int.reduceToNat, Int.reduceNeg, Int.reduceAdd, Int.reduceSub, Int.reduceMul, Int.reduceEq, Int.reduceLT, Int.reduceLE, Int.reduceNe, forall_const, forall_eq', forall_eq, List.forall_mem_cons, List.not_mem_nil]
              · simp only [g0, wf_preprocess, ↓reduceIte, Nat.reduceEqDiff, reduceCtorEq, Nat.reduceAdd, Nat.reduceMul, Nat.reduceLeDiff, Nat.reduceLT, Nat.reduceSub, Int.reduceToNat, Int.reduceNeg, Int.reduceAdd, Int.reduceSub, Int.reduceMul, Int.reduceEq, Int.reduceLT, Int.reduceLE, Int.reduceNe, forall_const, forall_eq', forall_eq, List.forall_mem_cons, List.not_mem_nil]
            · simp only [onLst_len hL, hz1, hz2, hz3, Int.natCast_nonneg, Int.le_refl, Int.toNat_natCast, g0, wf_preprocess, ↓reduceIte, Nat.reduceEqDiff, reduceCtorEq, Nat.reduceAdd, Nat.reduceMul, Nat.reduceLeDiff, Nat.reduceLT, Nat.reduceSub, Int.reduceToNat, Int.reduceNeg, Int.reduceAdd, Int.reduceSub, Int.reduceMul, Int.reduceEq, Int.reduceLT, Int.reduceLE, Int.reduceNe, forall_const, forall_eq', forall_eq, List.forall_mem_cons, List.not_mem_nil]
              refine fresh_i fun M nM => ?_
              try rw [hz0]
              have gM : get M ((M, AObj.amap []) :: mKS) = some (AObj.amap []) := get_new
              have xM : Ext [] mKS ((M, AObj.amap []) :: mKS) := .new nM
              simp only [onLst_len hL, hz1, hz2, hz3, Int.natCast_nonneg, Int.le_refl, Int.toNat_natCast, g0, wf_preprocess, ↓reduceIte, Nat.reduceEqDiff, reduceCtorEq, Nat.reduceAdd, Nat.reduceMul, Nat.reduceLeDiff, Nat.reduceLT, Nat.reduceSub, Int.reduceToNat, Int.reduceNeg, Int.reduceAdd, Int.reduceSub, Int.reduceMul, Int.reduceEq, Int.reduceLT, Int.reduceLE, Int.reduceNe, forall_const, forall_eq', forall_eq, List.forall_mem_cons, List.not_mem_nil]
              generalize ((M, AObj.amap []) :: mKS) = mKSM at *
              have dMK : M ≠ K := new_ne gK nM
              have dMS : M ≠ S := new_ne gS nM
              have gK := xM _ _ gK (by simp)
              have gS := xM _ _ gS (by simp)
              have nM0 : M ∉ keys m := Ext.isNew emKS nM (by simp)
              have emKSM : Ext [] m mKSM := emKS.trans xM
              refine call_i (CloneN_s hI h0 (by omega) fun N cN r mKSMN gN xN nN => ?_)
              simp only [onLst_len hL, hz1, hz2, hz3, Int.natCast_nonneg, Int.le_refl, Int.toNat_natCast, g0, wf_preprocess, ↓reduceIte, Nat.reduceEqDiff, reduceCtorEq, Nat.reduceAdd, Nat.reduceMul, Nat.reduceLeDiff, Nat.reduceLT, Nat.reduceSub, Int.reduceToNat, Int.reduceNeg, Int.reduceAdd, Int.reduceSub, Int.reduceMul, Int.reduceEq, Int.reduceLT, Int.reduceLE, Int.reduceNe, forall_const, forall_eq', forall_eq, List.forall_mem_cons, List.not_mem_nil]
              have dNK : N ≠ K := new_ne gK nN
              have dNS : N ≠ S := new_ne gS nN
              have dNM : N ≠ M := new_ne gM nN
              have gK := xN _ _ gK (by simp)
              have gS := xN _ _ gS (by simp)
              have gM := xN _ _ gM (by simp)
              have nN0 : N ∉ keys m := Ext.isNew emKSM nN (by simp)
              have emKSMN : Ext [] m mKSMN := emKSM.trans xN
              refine fresh_i fun T nT => ?_
              simp only [wf_preprocess, ↓reduceIte, Nat.reduceEqDiff, reduceCtorEq, Nat.reduceAdd, Nat.reduceMul, Nat.reduceLeDiff, Nat.reduceLT, Nat.reduceSub, Int.reduceToNat, Int.reduceNeg, Int.reduceAdd, Int.reduceSub, Int.reduceMul, Int.reduceEq, Int.reduceLT, Int.reduceLE, Int.reduceNe, forall_const, forall_eq', forall_eq, List.forall_mem_cons, List.not_mem_nil]
              have eT : Ext [] mKSMN ((T, _) :: mKSMN) := .new (ob := .cells [.mref N 0 L.length cN, .mapp M, .mref K 0 L.length L.length, .lst [] .nil, .lst [] .nil, .mref S 0 L.length L.length]) nT
              have dTK : T ≠ K := new_ne gK nT
              have dTS : T ≠ S := new_ne gS nT
              have dTM : T ≠ M := new_ne gM nT
              have dTN : T ≠ N := new_ne gN nT
              refine ⟨T, N, cN, M, K, S, r, ⟨get_new, eT _ _ gN (by simp), eT _ _ gM (by simp), eT _ _ gK (by simp), eT _ _ gS (by simp), ?_, ?_, emKSMN.trans eT⟩, ?_, ?_⟩
              · simp only [List.nodup_cons, List.mem_cons, List.not_mem_nil, or_false, not_or, not_false_eq_true, and_true, List.nodup_nil, true_and]
                exact ⟨⟨dTN, dTM, dTK, dTS⟩, ⟨dNM, dNK, dNS⟩, ⟨dMK, dMS⟩, dSK.symm⟩
              · intro x hx
                simp only [List.mem_cons, List.not_mem_nil, or_false] at hx
                rcases hx with rfl | rfl | rfl | rfl | rfl
                · exact Ext.isNew emKSMN nT (by simp)
                · exact nN0
                · exact nM0
                · exact nK0
                · exact nS0
              · simp only [wf_preprocess, ↓reduceIte, Nat.reduceEqDiff, reduceCtorEq, Nat.reduceAdd, Nat.reduceMul, Nat.reduceLeDiff, Nat.reduceLT, Nat.reduceSub, Int.reduceToNat, Int.reduceNeg, Int.reduceAdd, Int.reduceSub, Int.reduceMul, Int.reduceEq, Int.reduceLT, Int.reduceLE, Int.reduceNe, forall_const, forall_eq', forall_eq, List.forall_mem_cons, List.not_mem_nil]
              · simp only [g0, wf_preprocess, ↓reduceIte, Nat.reduceEqDiff, reduceCtorEq, Nat.reduceAdd, Nat.reduceMul, Nat.reduceLeDiff, Nat.reduceLT, Nat.reduceSub, Int.reduceToNat, Int.reduceNeg, Int.reduceAdd, Int.reduceSub, Int.reduceMul, Int.reduceEq, Int.reduceLT, Int.reduceLE, Int.reduceNe, forall_const, forall_eq', forall_eq, List.forall_mem_cons, List.not_mem_nil]
      · simp only [onLst_len hL, hz1, hz2, hz3, Int.natCast_nonneg, Int.le_refl, Int.toNat_natCast, g0, wf_preprocess, ↓reduceIte, Nat.reduceEqDiff, reduceCtorEq, Nat.reduceAdd, Nat.reduceMul, Nat.reduceLeDiff, Nat.reduceLT, Nat.reduceSub, Int.reduceToNat, Int.reduceNeg, Int.reduceAdd, Int.reduceSub, Int.reduceMul, Int.reduceEq, Int.reduceLT, Int.reduceLE, Int.reduceNe, forall_const, forall_eq', forall_eq, List.forall_mem_cons, List.not_mem_nil]
        refine fresh_i fun S nS => ?_
        try rw [hz0]
        have gS : get S ((S, AObj.cells (List.replicate L.length [AV.sc (Value.int IntKind.i64 0), AV.sc (Value.int IntKind.i64 0)]).flatten) :: m) = some (AObj.cells (List.replicate L.length [AV.sc (Value.int IntKind.i64 0), AV.sc (Value.int IntKind.i64 0)]).flatten) := get_new
        have xS : Ext [] m ((S, AObj.cells (List.replicate L.length [AV.sc (Value.int IntKind.i64 0), AV.sc (Value.int IntKind.i64 0)]).flatten) :: m) := .new nS
        simp only [onLst_len hL, hz1, hz2, hz3, Int.natCast_nonneg, Int.le_refl, Int.toNat_natCast, g0, wf_preprocess, ↓reduceIte, Nat.reduceEqDiff, reduceCtorEq, Nat.reduceAdd, Nat.reduceMul, Nat.reduceLeDiff, Nat.reduceLT, Nat.reduceSub, Int.reduceToNat, Int.reduceNeg, Int.reduceAdd, Int.reduceSub, Int.reduceMul, Int.reduceEq, Int.reduceLT, Int.reduceLE, Int.reduceNe, forall_const, forall_eq', forall_eq, List.forall_mem_cons, List.not_mem_nil]
        generalize ((S, AObj.cells (List.replicate L.length [AV.sc (Value.int IntKind.i64 0), AV.sc (Value.int IntKind.i64 0)]).flatten) :: m) = mS at *
        have nS0 : S ∉ keys m := Ext.isNew em nS (by simp)
        have emS : Ext [] m mS := em.trans xS
        refine ⟨stop_i ?_, stop_i ?_⟩
        · simp only [onLst_len hL, hz1, hz2, hz3, Int.natCast_nonneg, Int.le_refl, Int.toNat_natCast, g0, wf_preprocess, ↓reduceIte, Nat.reduceEqDiff, reduceCtorEq, Nat.reduceAdd, Nat.reduceMul, Nat.reduceLeDiff, Nat.reduceLT, Nat.reduceSub, Int.reduceToNat, Int.reduceNeg, Int.reduceAdd, Int.reduceSub, Int.reduceMul, Int.reduceEq, Int.reduceLT, Int.reduceLE, Int.reduceNe, forall_const, forall_eq', forall_eq, List.forall_mem_cons, List.not_mem_nil]
          refine call_i (CloneN_s hI h0 (by omega) fun N cN r mSN gN xN nN => ?_)
          simp only [onLst_len hL, hz1, hz2, hz3, Int.natCast_nonneg, Int.le_refl, Int.toNat_natCast, g0, wf_preprocess, ↓reduceIte, Nat.reduceEqDiff, reduceCtorEq, Nat.reduceAdd, Nat.reduceMul, Nat.reduceLeDiff, Nat.reduceLT, Nat.reduceSub, Int.reduceToNat, Int.reduceNeg, Int.reduceAdd, Int.reduceSub, Int.reduceMul, Int.reduceEq, Int.reduceLT, Int.reduceLE, Int.reduceNe, forall_const, forall_eq', forall_eq, List.forall_mem_cons, List.not_mem_nil]
          have dNS : N ≠ S := new_ne gS nN
          have gS := xN _ _ gS (by simp)
          have nN0 : N ∉ keys m := Ext.isNew emS nN (by simp)
          have emSN : Ext [] m mSN := emS.trans xN
          refine ⟨stop_i ?_, stop_i ?_⟩
          · simp only [onLst_len hL, hz1, hz2, hz3, Int.natCast_nonneg, Int.le_refl, Int.toNat_natCast, g0, wf_preprocess, ↓reduceIte, Nat.reduceEqDiff, reduceCtorEq, Nat.reduceAdd, Nat.reduceMul, Nat.reduceLeDiff, Nat.reduceLT, Nat.reduceSub, Int.reduceToNat, Int.reduceNeg, Int.reduceAdd, Int.reduceSub, Int.reduceMul, Int.reduceEq, Int.reduceLT, Int.reduceLE, Int.reduceNe, forall_const, forall_eq', forall_eq, List.forall_mem_cons, List.not_mem_nil]
            refine fresh_i fun M nM => ?_
            try rw [hz0]
            have gM : get M ((M, AObj.amap []) :: mSN) = some (AObj.amap []) := get_new
            have xM : Ext [] mSN ((M, AObj.amap []) :: mSN) := .new nM
            simp only [onLst_len hL, hz1, hz2, hz3, Int.natCast_nonneg, Int.le_refl, Int.toNat_natCast, g0, wf_preprocess, ↓reduceIte, Nat.reduceEqDiff, reduceCtorEq, Nat.reduceAdd, Nat.reduceMul, Nat.reduceLeDiff, Nat.reduceLT, Nat.reduceSub, Int.reduceToNat, Int.reduceNeg, Int.reduceAdd, Int.reduceSub, Int.reduceMul, Int.reduceEq, Int.reduceLT, Int.reduceLE, Int.reduceNe, forall_const, forall_eq', forall_eq, List.forall_mem_cons, List.not_mem_nil]
            generalize ((M, AObj.amap []) :: mSN) = mSNM at *
            have dMS : M ≠ S := new_ne gS nM
            have dMN : M ≠ N := new_ne gN nM
            have gS := xM _ _ gS (by simp)
            have gN := xM _ _ gN (by simp)
            have nM0 : M ∉ keys m := Ext.isNew emSN nM (by simp)
            have emSNM : Ext [] m mSNM := emSN.trans xM
            refine fresh_i fun K nK => ?_
            try rw [hz0]
            have gK : get K ((K, AObj.cells (List.replicate L.length [AV.lst [] Own.nil]).flatten) :: mSNM) = some (AObj.cells (List.replicate L.length [AV.lst [] Own.nil]).flatten) := get_new
            have xK : Ext [] mSNM ((K, AObj.cells (List.replicate L.length [AV.lst [] Own.nil]).flatten) :: mSNM) := .new nK
            simp only [onLst_len hL, hz1, hz2, hz3, Int.natCast_nonneg, Int.le_refl, Int.toNat_natCast, g0, wf_preprocess, ↓reduceIte, Nat.reduceEqDiff, reduceCtorEq, Nat.reduceAdd, Nat.reduceMul, Nat.reduceLeDiff, Nat.reduceLT, Nat.reduceSub, Int.reduceToNat, Int.reduceNeg, Int.reduceAdd, Int.reduceSub, Int.reduceMul, Int.reduceEq, Int.reduceLT, Int.reduceLE, Int.reduceNe, forall_const, forall_eq', forall_eq, List.forall_mem_cons, List.not_mem_nil]
            generalize ((K, AObj.cells (List.replicate L.length [AV.lst [] Own.nil]).flatten) :: mSNM) = mSNMK at *
            have dKS : K ≠ S := new_ne gS nK
            have dKN : K ≠ N := new_ne gN nK
            have dKM : K ≠ M := new_ne gM nK
            have gS := xK _ _ gS (by simp)
            have gN := xK _ _ gN (by simp)
            have gM := xK _ _ gM (by simp)
            have nK0 : K ∉ keys m := Ext.isNew emSNM nK (by simp)
            have emSNMK : Ext [] m mSNMK := emSNM.trans xK
            refine fresh_i fun T nT => ?_
            simp only [wf_preprocess, ↓reduceIte, Nat.reduceEqDiff, reduceCtorEq, Nat.reduceAdd, Nat.reduceMul, Nat.reduceLeDiff, Nat.reduceLT, Nat.reduceSub, Int.reduceToNat, Int.reduceNeg, Int.reduceAdd, Int.reduceSub, Int.reduceMul, Int.reduceEq, Int.reduceLT, Int.reduceLE, Int.reduceNe, forall_const, forall_eq', forall_eq, List.forall_mem_cons, List.not_mem_nil]
            have eT : Ext [] mSNMK ((T, _) :: mSNMK) := .new (ob := .cells [.mref N 0 L.length cN, .mapp M, .mref K 0 L.length L.length, .lst [] .nil, .lst [] .nil, .mref S 0 L.length L.length]) nT
            have dTS : T ≠ S := new_ne gS nT
            have dTN : T ≠ N := new_ne gN nT
            have dTM : T ≠ M := new_ne gM nT
            have dTK : T ≠ K := new_ne gK nT
            refine ⟨T, N, cN, M, K, S, r, ⟨get_new, eT _ _ gN (by simp), eT _ _ gM (by simp), eT _ _ gK (by simp), eT _ _ gS (by simp), ?_, ?_, emSNMK.trans eT⟩, ?_, ?_⟩
            · simp only [List.nodup_cons, List.mem_cons, List.not_mem_nil, or_false, not_or, not_false_eq_true, and_true, List.nodup_nil, true_and]
              exact ⟨⟨dTN, dTM, dTK, dTS⟩, ⟨dMN.symm, dKN.symm, dNS⟩, ⟨dKM.symm, dMS⟩, dKS⟩
            · intro x hx
              simp only [List.mem_cons, List.not_mem_nil, or_false] at hx
              rcases hx with rfl | rfl | rfl | rfl | rfl
              · exact Ext.isNew emSNMK nT (by simp)
              · exact nN0
              · exact nM0
              · exact nK0
              · exact nS0
            · simp only [wf_preprocess, ↓reduceIte, Nat.reduceEqDiff, reduceCtorEq, Nat.reduceAdd, Nat.reduceMul, Nat.reduceLeDiff, Nat.reduceLT, Nat.reduceSub, Int.reduceToNat, Int.reduceNeg, Int.reduceAdd, Int.reduceSub, Int.reduceMul, Int.reduceEq, Int.reduceLT, Int.reduceLE, Int.reduceNe, forall_const, forall_eq', forall_eq, List.forall_mem_cons, List.not_mem_nil]
            · simp only [g0, wf_preprocess, ↓reduceIte, Nat.reduceEqDiff, reduceCtorEq, Nat.reduceAdd, Nat.reduceMul, Nat.reduceLeDiff, Nat.reduceLT, Nat.reduceSub, Int.reduceToNat, Int.reduceNeg, Int.reduceAdd, Int.reduceSub, Int.reduceMul, Int.reduceEq, Int.reduceLT, Int.reduceLE, Int.reduceNe, forall_const, forall_eq', forall_eq, List.forall_mem_cons, List.not_mem_nil]
          · simp only [onLst_len hL, hz1, hz2, hz3, Int.natCast_nonneg, Int.le_refl, Int.toNat_natCast, g0, wf_preprocess, ↓reduceIte, Nat.reduceEqDiff, reduceCtorEq, Nat.reduceAdd, Nat.reduceMul, Nat.reduceLeDiff, Nat.reduceLT, Nat.reduceSub, Int.reduceToNat, Int.reduceNeg, Int.reduceAdd, Int.reduceSub, Int.reduceMul, Int.reduceEq, Int.reduceLT, Int.reduceLE, Int.reduceNe, forall_const, forall_eq', forall_eq, List.forall_mem_cons, List.not_mem_nil]
            refine fresh_i fun K nK => ?_
            try rw [hz0]
            have gK : get K ((K, AObj.cells (List.replicate L.length [AV.lst [] Own.nil]).flatten) :: mSN) = some (AObj.cells (List.replicate L.length [AV.lst [] Own.nil]).flatten) := get_new
            have xK : Ext [] mSN ((K, AObj.cells (List.replicate L.length [AV.lst [] Own.nil]).flatten) :: mSN) := .new nK
            simp only [onLst_len hL, hz1, hz2, hz3, Int.natCast_nonneg, Int.le_refl, Int.toNat_natCast, g0, wf_preprocess, ↓reduceIte, Nat.reduceEqDiff, reduceCtorEq, Nat.reduceAdd, Nat.reduceMul, Nat.reduceLeDiff, Nat.reduceLT, Nat.reduceSub, Int.reduceToNat, Int.reduceNeg, Int.reduceAdd, Int.reduceSub, Int.reduceMul, Int.reduceEq, Int.reduceLT, Int.reduceLE, Int.reduceNe, forall_const, forall_eq', forall_eq, List.forall_mem_cons, List.not_mem_nil]
            generalize ((K, AObj.cells (List.replicate L.length [AV.lst [] Own.nil]).flatten) :: mSN) = mSNK at *
            have dKS : K ≠ S := new_ne gS nK
            have dKN : K ≠ N := new_ne gN nK
            have gS := xK _ _ gS (by simp)
            have gN := xK _ _ gN (by simp)
            have nK0 : K ∉ keys m := Ext.isNew emSN nK (by simp)
            have emSNK : Ext [] m mSNK := emSN.trans xK
            refine fresh_i fun M nM => ?_
            try rw [hz0]
            have gM : get M ((M, AObj.amap []) :: mSNK) = some (AObj.amap []) := get_new
            have xM : Ext [] mSNK ((M, AObj.amap []) :: mSNK) := .new nM
            simp only [onLst_len hL, hz1, hz2, hz3, Int.natCast_nonneg, Int.le_refl, Int.toNat_natCast, g0, wf_preprocess, ↓reduceIte, Nat.reduceEqDiff, reduceCtorEq, Nat.reduceAdd, Nat.reduceMul, Nat.reduceLeDiff, Nat.reduceLT, Nat.reduceSub, Int.reduceToNat, Int.reduceNeg, Int.reduceAdd, Int.reduceSub, Int.reduceMul, Int.reduceEq, Int.reduceLT, Int.reduceLE, Int.reduceNe, forall_const, forall_eq', forall_eq, List.forall_mem_cons, List.not_mem_nil]
            generalize ((M, AObj.amap []) :: mSNK) = mSNKM at *
            have dMS : M ≠ S := new_ne gS nM
            have dMN : M ≠ N := new_ne gN nM
            have dMK : M ≠ K := new_ne gK nM
            have gS := xM _ _ gS (by simp)
            have gN := xM _ _ gN (by simp)
            have gK := xM _ _ gK (by simp)
            have nM0 : M ∉ keys m := Ext.isNew emSNK nM (by simp)
            have emSNKM : Ext [] m mSNKM := emSNK.trans xM
            refine fresh_i fun T nT => ?_
            simp only [wf_preprocess, ↓reduceIte, Nat.reduceEqDiff, reduceCtorEq, Nat.reduceAdd, Nat.reduceMul, Nat.reduceLeDiff, Nat.reduceLT, Nat.reduceSub, Int.reduceToNat, Int.reduceNeg, Int.reduceAdd, Int.reduceSub, Int.reduceMul, Int.reduceEq, Int.reduceLT, Int.reduceLE, Int.reduceNe, forall_const, forall_eq', forall_eq, List.forall_mem_cons, List.not_mem_nil]
            have eT : Ext [] mSNKM ((T, _) :: mSNKM) := .new (ob := .cells [.mref N 0 L.length cN, .mapp M, .mref K 0 L.length L.length, .lst [] .nil, .lst [] .nil, .mref S 0 L.length L.length]) nT
            have dTS : T ≠ S := new_ne gS nT
            have dTN : T ≠ N := new_ne gN nT
            have dTK : T ≠ K := new_ne gK nT
            have dTM : T ≠ M := new_ne gM nT
            refine ⟨T, N, cN, M, K, S, r, ⟨get_new, eT _ _ gN (by simp), eT _ _ gM (by simp), eT _ _ gK (by simp), eT _ _ gS (by simp), ?_, ?_, emSNKM.trans eT⟩, ?_, ?_⟩
            · simp only [List.nodup_cons, List.mem_cons, List.not_mem_nil, or_false, not_or, not_false_eq_true, and_true, List.nodup_nil, true_and]
              exact ⟨⟨dTN, dTM, dTK, dTS⟩, ⟨dMN.symm, dKN.symm, dNS⟩, ⟨dMK, dMS⟩, dKS⟩
            · intro x hx
              simp only [List.mem_cons, List.not_mem_nil, or_false] at hx
              rcases hx with rfl | rfl | rfl | rfl | rfl
              · exact Ext.isNew emSNKM nT (by simp)
              · exact nN0
              · exact nM0
              · exact nK0
              · exact nS0
            · simp only [wf_preprocess, ↓reduceIte, Nat.reduceEqDiff, reduceCtorEq, Nat.reduceAdd, Nat.reduceMul, Nat.reduceLeDiff, Nat.reduceLT, Nat.reduceSub, Int.reduceToNat, Int.reduceNeg, Int.reduceAdd, Int.reduceSub, Int.reduceMul, Int.reduceEq, Int.reduceLT, Int.reduceLE, Int.reduceNe, forall_const, forall_eq', forall_eq, List.forall_mem_cons, List.not_mem_nil]
            · simp only [g0, wf_preprocess, ↓reduceIte, Nat.reduceEqDiff, reduceCtorEq, Nat.reduceAdd, Nat.reduceMul, Nat.reduceLeDiff, Nat.reduceLT, Nat.reduceSub, Int.reduceToNat, Int.reduceNeg, Int.reduceAdd, Int.reduceSub, Int.reduceMul, Int.reduceEq, Int.reduceLT, Int.reduceLE, Int.reduceNe, forall_const, forall_eq', forall_eq, List.forall_mem_cons, List.not_mem_nil]
        · simp only [wf_preprocess, ↓reduceIte, Nat.reduceEqDiff, reduceCtorEq, Nat.reduceAdd, Nat.reduceMul, Nat.reduceLeDiff, Nat.reduceLT, Nat.reduceSub, Int.reduceToNat, Int.reduceNeg, Int.reduceAdd, Int.reduceSub, Int.reduceMul, Int.reduceEq, Int.reduceLT, Int.reduceLE, Int.reduceNe, forall_const, forall_eq', forall_eq, List.forall_mem_cons, List.not_mem_nil]
          refine ⟨stop_i ?_, stop_i ?_⟩
          · simp only [onLst_len hL, hz1, hz2, hz3, Int.natCast_nonneg, Int.le_refl, Int.toNat_natCast, g0, wf_preprocess, ↓reduceIte, Nat.reduceEqDiff, reduceCtorEq, Nat.reduceAdd, Nat.reduceMul, Nat.reduceLeDiff, Nat.reduceLT, Nat.reduceSub, Int.reduceToNat, Int.reduceNeg, Int.reduceAdd, Int.reduceSub, Int.reduceMul, Int.reduceEq, Int.reduceLT, Int.reduceLE, Int.reduceNe, forall_const, forall_eq', forall_eq, List.forall_mem_cons, List.not_mem_nil]
            refine fresh_i fun M nM => ?_
            try rw [hz0]
            have gM : get M ((M, AObj.amap []) :: mS) = some (AObj.amap []) := get_new
            have xM : Ext [] mS ((M, AObj.amap []) :: mS) := .new nM
            simp only [onLst_len hL, hz1, hz2, hz3, Int.natCast_nonneg, Int.le_refl, Int.toNat_natCast, g0, wf_preprocess, ↓reduceIte, Nat.reduceEqDiff, reduceCtorEq, Nat.reduceAdd, Nat.reduceMul, Nat.reduceLeDiff, Nat.reduceLT, Nat.reduceSub, Int.reduceToNat, Int.reduceNeg, Int.reduceAdd, Int.reduceSub, Int.reduceMul, Int.reduceEq, Int.reduceLT, Int.reduceLE, Int.reduceNe, forall_const, forall_eq', forall_eq, List.forall_mem_cons, List.not_mem_nil]
            generalize ((M, AObj.amap []) :: mS) = mSM at *
            have dMS : M ≠ S := new_ne gS nM
            have gS := xM _ _ gS (by simp)
            have nM0 : M ∉ keys m := Ext.isNew emS nM (by simp)
            have emSM : Ext [] m mSM := emS.trans xM
            refine ⟨stop_i ?_, stop_i ?_⟩
            · simp only [onLst_len hL, hz1, hz2, hz3, Int.natCast_nonneg, Int.le_refl, Int.toNat_natCast, g0, wf_preprocess, ↓reduceIte, Nat.reduceEqDiff, reduceCtorEq, Nat.reduceAdd, Nat.reduceMul, Nat.reduceLeDiff, Nat.reduceLT, Nat.reduceSub, Int.reduceToNat, Int.reduceNeg, Int.reduceAdd, Int.reduceSub, Int.reduceMul, Int.reduceEq, Int.reduceLT, Int.reduceLE, Int.reduceNe, forall_const, forall_eq', forall_eq, List.forall_mem_cons, List.not_mem_nil]
              refine call_i (CloneN_s hI h0 (by omega) fun N cN r mSMN gN xN nN => ?_)
              simp only [onLst_len hL, hz1, hz2, hz3, Int.natCast_nonneg, Int.le_refl, Int.toNat_natCast, g0, wf_preprocess, ↓reduceIte, Nat.reduceEqDiff, reduceCtorEq, Nat.reduceAdd, Nat.reduceMul, Nat.reduceLeDiff, Nat.reduceLT, Nat.reduceSub, Int.reduceToNat, Int.reduceNeg, Int.reduceAdd, Int.reduceSub, Int.reduceMul, Int.reduceEq, Int.reduceLT, Int.reduceLE, Int.reduceNe, forall_const, forall_eq', forall_eq, List.forall_mem_cons, List.not_mem_nil]
              have dNS : N ≠ S := new_ne gS nN
              have dNM : N ≠ M := new_ne gM nN
              have gS := xN _ _ gS (by simp)
              have gM := xN _ _ gM (by simp)
              have nN0 : N ∉ keys m := Ext.isNew emSM nN (by simp)
              have emSMN : Ext [] m mSMN := emSM.trans xN
              refine fresh_i fun K nK => ?_
              try rw [hz0]
              have gK : get K ((K, AObj.cells (List.replicate L.length [AV.lst [] Own.nil]).flatten) :: mSMN) = some (AObj.cells (List.replicate L.length [AV.lst [] Own.nil]).flatten) := get_new
              have xK : Ext [] mSMN ((K, AObj.cells (List.replicate L.length [AV.lst [] Own.nil]).flatten) :: mSMN) := .new nK
              simp only [onLst_len hL, hz1, hz2, hz3, Int.natCast_nonneg, Int.le_refl, Int.toNat_natCast, g0, wf_preprocess, ↓reduceIte, Nat.reduceEqDiff, reduceCtorEq, Nat.reduceAdd, Nat.reduceMul, Nat.reduceLeDiff, Nat.reduceLT, Nat.reduceSub, Int.reduceToNat, Int.reduceNeg, Int.reduceAdd, Int.reduceSub, Int.reduceMul, Int.reduceEq, Int.reduceLT, Int.reduceLE, Int.reduceNe, forall_const, forall_eq', forall_eq, List.forall_mem_cons, List.not_mem_nil]
              generalize ((K, AObj.cells (List.replicate L.length [AV.lst [] Own.nil]).flatten) :: mSMN) = mSMNK at *
              have dKS : K ≠ S := new_ne gS nK
              have dKM : K ≠ M := new_ne gM nK
              have dKN : K ≠ N := new_ne gN nK
              have gS := xK _ _ gS (by simp)
              have gM := xK _ _ gM (by simp)
              have gN := xK _ _ gN (by simp)
              have nK0 : K ∉ keys m := Ext.isNew emSMN nK (by simp)
              have emSMNK : Ext [] m mSMNK := emSMN.trans xK
              refine fresh_i fun T nT => ?_
              simp only [wf_preprocess, ↓reduceIte, Nat.reduceEqDiff, reduceCtorEq, Nat.reduceAdd, Nat.reduceMul, Nat.reduceLeDiff, Nat.reduceLT, Nat.reduceSub, Int.reduceToNat, Int.reduceNeg, Int.reduceAdd, Int.reduceSub, Int.reduceMul, Int.reduceEq, Int.reduceLT, Int.reduceLE, Int.reduceNe, forall_const, forall_eq', forall_eq, List.forall_mem_cons, List.not_mem_nil]
              have eT : Ext [] mSMNK ((T, _) :: mSMNK) := .new (ob := .cells [.mref N 0 L.length cN, .mapp M, .mref K 0 L.length L.length, .lst [] .nil, .lst [] .nil, .mref S 0 L.length L.length]) nT
              have dTS : T ≠ S := new_ne gS nT
              have dTM : T ≠ M := new_ne gM nT
              have dTN : T ≠ N := new_ne gN nT
              have dTK : T ≠ K := new_ne gK nT
              refine ⟨T, N, cN, M, K, S, r, ⟨get_new, eT _ _ gN (by simp), eT _ _ gM (by simp), eT _ _ gK (by simp), eT _ _ gS (by simp), ?_, ?_, emSMNK.trans eT⟩, ?_, ?_⟩
              · simp only [List.nodup_cons, List.mem_cons, List.not_mem_nil, or_false, not_or, not_false_eq_true, and_true, List.nodup_nil, true_and]
                exact ⟨⟨dTN, dTM, dTK, dTS⟩, ⟨dNM, dKN.symm, dNS⟩, ⟨dKM.symm, dMS⟩, dKS⟩
              · intro x hx
                simp only [List.mem_cons, List.not_mem_nil, or_false] at hx
                rcases hx with rfl | rfl | rfl | rfl | rfl
                · exact Ext.isNew emSMNK nT (by simp)
                · exact nN0
                · exact nM0
                · exact nK0
                · exact nS0
              · simp only [wf_preprocess, ↓reduceIte, Nat.reduceEqDiff, reduceCtorEq, Nat.reduceAdd, Nat.reduceMul, Nat.reduceLeDiff, Nat.reduceLT, Nat.reduceSub, Int.reduceToNat, Int.reduceNeg, Int.reduceAdd, Int.reduceSub, Int.reduceMul, Int.reduceEq, Int.reduceLT, Int.reduceLE, Int.reduceNe, forall_const, forall_eq', forall_eq, List.forall_mem_cons, List.not_mem_nil]
              · simp only [g0, wf_preprocess, ↓reduceIte, Nat.reduceEqDiff, reduceCtorEq, Nat.reduceAdd, Nat.reduceMul, Nat.reduceLeDiff, Nat.reduceLT, Nat.reduceSub, Int.reduceToNat, Int.reduceNeg, Int.reduceAdd, Int.reduceSub, Int.reduceMul, Int.reduceEq, Int.reduceLT, Int.reduceLE, Int.reduceNe, forall_const, forall_eq', forall_eq, List.forall_mem_cons, List.not_mem_nil]
            · simp only [onLst_len hL, hz1, hz2, hz3, Int.natCast_nonneg, Int.le_refl, Int.toNat_natCast, g0, wf_preprocess, ↓reduceIte, Nat.reduceEqDiff, reduceCtorEq, Nat.reduceAdd, Nat.reduceMul, Nat.reduceLeDiff, Nat.reduceLT, Nat.reduceSub, Int.reduceToNat, Int.reduceNeg, Int.reduceAdd, Int.reduceSub, Int.reduceMul, Int.reduceEq, Int.reduceLT, Int.reduceLE, Int.reduceNe, forall_const, forall_eq', forall_eq, List.forall_mem_cons, List.not_mem_nil]
              refine fresh_i fun K nK => ?_
              try rw [hz0]
              have gK : get K ((K, AObj.cells (List.replicate L.length [AV.lst [] Own.nil]).flatten) :: mSM) = some (AObj.cells (List.replicate L.length [AV.lst [] Own.nil]).flatten) := get_new
              have xK : Ext [] mSM ((K, AObj.cells (List.replicate L.length [AV.lst [] Own.nil]).flatten) :: mSM) := .new nK
              simp only [onLst_len hL, hz1, hz2, hz3, Int.natCast_nonneg, Int.le_refl, Int.toNat_natCast, g0, wf_preprocess, ↓reduceIte, Nat.reduceEqDiff, reduceCtorEq, Nat.reduceAdd, Nat.reduceMul, Nat.reduceLeDiff, Nat.reduceLT, Nat.reduceSub, Int.reduceToNat, Int.reduceNeg, Int.reduceAdd, Int.reduceSub, Int.reduceMul, Int.reduceEq, Int.reduceLT, Int.reduceLE, Int.reduceNe, forall_const, forall_eq', forall_eq, List.forall_mem_cons, List.not_mem_nil]
              generalize ((K, AObj.cells (List.replicate L.length [AV.lst [] Own.nil]).flatten) :: mSM) = mSMK at *
              have dKS : K ≠ S := new_ne gS nK
              have dKM : K ≠ M := new_ne gM nK
              have gS := xK _ _ gS (by simp)
              have gM := xK _ _ gM (by simp)
              have nK0 : K ∉ keys m := Ext.isNew emSM nK (by simp)
              have emSMK : Ext [] m mSMK := emSM.trans xK
              refine call_i (CloneN_s hI h0 (by omega) fun N cN r mSMKN gN xN nN => ?_)
              simp only [onLst_len hL, hz1, hz2, hz3, Int.natCast_nonneg, Int.le_refl, Int.toNat_natCast, g0, wf_preprocess, ↓reduceIte, Nat.reduceEqDiff, reduceCtorEq, Nat.reduceAdd, Nat.reduceMul, Nat.reduceLeDiff, Nat.reduceLT, Nat.reduceSub, Int.reduceToNat, Int.reduceNeg, Int.reduceAdd, Int.reduceSub, Int.reduceMul, Int.reduceEq, Int.reduceLT, Int.reduceLE, Int.reduceNe, forall_const, forall_eq', forall_eq, List.forall_mem_cons, List.not_mem_nil]
              have dNS : N ≠ S := new_ne gS nN
              have dNM : N ≠ M := new_ne gM nN
              have dNK : N ≠ K := new_ne gK nN
              have gS := xN _ _ gS (by simp)
              have gM := xN _ _ gM (by simp)
              have gK := xN _ _ gK (by simp)
              have nN0 : N ∉ keys m := Ext.isNew emSMK nN (by simp)
              have emSMKN : Ext [] m mSMKN := emSMK.trans xN
              refine fresh_i fun T nT => ?_
              simp only [wf_preprocess, ↓reduceIte, Nat.reduceEqDiff, reduceCtorEq, Nat.reduceAdd, Nat.reduceMul, Nat.reduceLeDiff, Nat.reduceLT, Nat.reduceSub, Int.reduceToNat, Int.reduceNeg, Int.reduceAdd, Int.reduceSub, Int.reduceMul, Int.reduceEq, Int.reduceLT, Int.reduceLE, Int.reduceNe, forall_const, forall_eq', forall_eq, List.forall_mem_cons, List.not_mem_nil]
              have eT : Ext [] mSMKN ((T, _) :: mSMKN) := .new (ob := .cells [.mref N 0 L.length cN, .mapp M, .mref K 0 L.length L.length, .lst [] .nil, .lst [] .nil, .mref S 0 L.length L.length]) nT
              have dTS : T ≠ S := new_ne gS nT
              have dTM : T ≠ M := new_ne gM nT
              have dTK : T ≠ K := new_ne gK nT
              have dTN : T ≠ N := new_ne gN nT
              refine ⟨T, N, cN, M, K, S, r, ⟨get_new, eT _ _ gN (by simp), eT _ _ gM (by simp), eT _ _ gK (by simp), eT _ _ gS (by simp), ?_, ?_, emSMKN.trans eT⟩, ?_, ?_⟩
              · simp only [List.nodup_cons, List.mem_cons, List.not_mem_nil, or_false, not_or, not_false_eq_true, and_true, List.nodup_nil, true_and]
                exact ⟨⟨dTN, dTM, dTK, dTS⟩, ⟨dNM, dNK, dNS⟩, ⟨dKM.symm, dMS⟩, dKS⟩
              · intro x hx
                simp only [List.mem_cons, List.not_mem_nil, or_false] at hx
                rcases hx with rfl | rfl | rfl | rfl | rfl
                · exact Ext.isNew emSMKN nT (by simp)
                · exact nN0
                · exact nM0
                · exact nK0
                · exact nS0
              · simp only [wf_preprocess, ↓reduceIte, Nat.reduceEqDiff, reduceCtorEq, Nat.reduceAdd, Nat.reduceMul, Nat.reduceLeDiff, Nat.reduceLT, Nat.reduceSub, Int.reduceToNat, Int.reduceNeg, Int.reduceAdd, Int.reduceSub, Int.reduceMul, Int.reduceEq, Int.reduceLT, Int.reduceLE, Int.reduceNe, forall_const, forall_eq', forall_eq, List.forall_mem_cons, List.not_mem_nil]
              · simp only [g0, wf_preprocess, ↓reduceIte, Nat.reduceEqDiff, reduceCtorEq, Nat.reduceAdd, Nat.reduceMul, Nat.reduceLeDiff, Nat.reduceLT, Nat.reduceSub, Int.reduceToNat, Int.reduceNeg, Int.reduceAdd, Int.reduceSub, Int.reduceMul, Int.reduceEq, Int.reduceLT, Int.reduceLE, Int.reduceNe, forall_const, forall_eq', forall_eq, List.forall_mem_cons, List.not_mem_nil]
          · simp only [onLst_len hL, hz1, hz2, hz3, Int.natCast_nonneg, Int.le_refl, Int.toNat_natCast, g0, wf_preprocess, ↓reduceIte, Nat.reduceEqDiff, reduceCtorEq, Nat.reduceAdd, Nat.reduceMul, Nat.reduceLeDiff, Nat.reduceLT, Nat.reduceSub, Int.reduceToNat, Int.reduceNeg, Int.reduceAdd, Int.reduceSub, Int.reduceMul, Int.reduceEq, Int.reduceLT, Int.reduceLE, Int.reduceNe, forall_const, forall_eq', forall_eq, List.forall_mem_cons, List.not_mem_nil]
            refine fresh_i fun K nK => ?_
            try rw [hz0]
            have gK : get K ((K, AObj.cells (List.replicate L.length [AV.lst [] Own.nil]).flatten) :: mS) = some (AObj.cells (List.replicate L.length [AV.lst [] Own.nil]).flatten) := get_new
            have xK : Ext [] mS ((K, AObj.cells (List.replicate L.length [AV.lst [] Own.nil]).flatten) :: mS) := .new nK
            simp only [onLst_len hL, hz1, hz2, hz3, Int.natCast_nonneg, Int.le_refl, Int.toNat_natCast, g0, wf_preprocess, ↓reduceIte, Nat.reduceEqDiff, reduceCtorEq, Nat.reduceAdd, Nat.reduceMul, Nat.reduceLeDiff, Nat.reduceLT, Nat.reduceSub, Int.reduceToNat, Int.reduceNeg, Int.reduceAdd, Int.reduceSub, Int.reduceMul, Int.reduceEq, Int.reduceLT, Int.reduceLE, Int.reduceNe, forall_const, forall_eq', forall_eq, List.forall_mem_cons, List.not_mem_nil]
            generalize ((K, AObj.cells (List.replicate L.length [AV.lst [] Own.nil]).flatten) :: mS) = mSK at *
            have dKS : K ≠ S := new_ne gS nK
            have gS := xK _ _ gS (by simp)
            have nK0 : K ∉ keys m := Ext.isNew emS nK (by simp)
            have emSK : Ext [] m mSK := emS.trans xK
            refine ⟨stop_i ?_, stop_i ?_⟩
            · simp only [onLst_len hL, hz1, hz2, hz3, Int.natCast_nonneg, Int.le_refl, Int.toNat_natCast, g0, wf_preprocess, ↓reduceIte, Nat.reduceEqDiff, reduceCtorEq, Nat.reduceAdd, Nat.reduceMul, Nat.reduceLeDiff, Nat.reduceLT, Nat.reduceSub, Int.reduceToNat, Int.reduceNeg, Int.reduceAdd, Int.reduceSub, Int.reduceMul, Int.reduceEq, Int.reduceLT, Int.reduceLE, Int.reduceNe, forall_const, forall_eq', forall_eq, List.forall_mem_cons, List.not_mem_nil]
              refine call_i (CloneN_s hI h0 (by omega) fun N cN r mSKN gN xN nN => ?_)
              simp only [onLst_len hL, hz1, hz2, hz3, Int.natCast_nonneg, Int.le_refl, Int.toNat_natCast, g0, wf_preprocess, ↓reduceIte, Nat.reduceEqDiff, reduceCtorEq, Nat.reduceAdd, Nat.reduceMul, Nat.reduceLeDiff, Nat.reduceLT, Nat.reduceSub, Int.reduceToNat, Int.reduceNeg, Int.reduceAdd, Int.reduceSub, Int.reduceMul, Int.reduceEq, Int.reduceLT, Int.reduceLE, Int.reduceNe, forall_const, forall_eq', forall_eq, List.forall_mem_cons, List.not_mem_nil]
              have dNS : N ≠ S := new_ne gS nN
              have dNK : N ≠ K := new_ne gK nN
              have gS := xN _ _ gS (by simp)
              have gK := xN _ _ gK (by simp)
              have nN0 : N ∉ keys m := Ext.isNew emSK nN (by simp)
              have emSKN : Ext [] m mSKN := emSK.trans xN
              refine fresh_i fun M nM => ?_
              try rw [hz0]
              have gM : get M ((M, AObj.amap []) :: mSKN) = some (AObj.amap []) := get_new
              have xM : Ext [] mSKN ((M, AObj.amap []) :: mSKN) := .new nM
              simp only [onLst_len hL, hz1, hz2, hz3, Int.natCast_nonneg, Int.le_refl, Int.toNat_natCast, g0, wf_preprocess, ↓reduceIte, Nat.reduceEqDiff, reduceCtorEq, Nat.reduceAdd, Nat.reduceMul, Nat.reduceLeDiff, Nat.reduceLT, Nat.reduceSub, Int.reduceToNat, Int.reduceNeg, Int.reduceAdd, Int.reduceSub, Int.reduceMul, Int.reduceEq, Int.reduceLT, Int.reduceLE, Int.reduceNe, forall_const, forall_eq', forall_eq, List.forall_mem_cons, List.not_mem_nil]
              generalize ((M, AObj.amap []) :: mSKN) = mSKNM at *
              have dMS : M ≠ S := new_ne gS nM
              have dMK : M ≠ K := new_ne gK nM
              have dMN : M ≠ N := new_ne gN nM
              have gS := xM _ _ gS (by simp)
              have gK := xM _ _ gK (by simp)
              have gN := xM _ _ gN (by simp)
              have nM0 : M ∉ keys m := Ext.isNew emSKN nM (by simp)
              have emSKNM : Ext [] m mSKNM := emSKN.trans xM
              refine fresh_i fun T nT => ?_
              simp only [wf_preprocess, ↓reduceIte, Nat.reduceEqDiff, reduceCtorEq, Nat.reduceAdd, Nat.reduceMul, Nat.reduceLeDiff, Nat.reduceLT, Nat.reduceSub, Int.reduceToNat, Int.reduceNeg, Int.reduceAdd, Int.reduceSub, Int.reduceMul, Int.reduceEq, Int.reduceLT, Int.reduceLE, Int.reduceNe, forall_const, forall_eq', forall_eq, List.forall_mem_cons, List.not_mem_nil]
              have eT : Ext [] mSKNM ((T, _) :: mSKNM) := .new (ob := .cells [.mref N 0 L.length cN, .mapp M, .mref K 0 L.length L.length, .lst [] .nil, .lst [] .nil, .mref S 0 L.length L.length]) nT
              have dTS : T ≠ S := new_ne gS nT
              have dTK : T ≠ K := new_ne gK nT
              have dTN : T ≠ N := new_ne gN nT
              have dTM : T ≠ M := new_ne gM nT
              refine ⟨T, N, cN, M, K, S, r, ⟨get_new, eT _ _ gN (by simp), eT _ _ gM (by simp), eT _ _ gK (by simp), eT _ _ gS (by simp), ?_, ?_, emSKNM.trans eT⟩, ?_, ?_⟩
              · simp only [List.nodup_cons, List.mem_cons, List.not_mem_nil, or_false, not_or, not_false_eq_true, and_true, List.nodup_nil, true_and]
                exact ⟨⟨dTN, dTM, dTK, dTS⟩, ⟨dMN.symm, dNK, dNS⟩, ⟨dMK, dMS⟩, dKS⟩
              · intro x hx
                simp only [List.mem_cons, List.not_mem_nil, or_false] at hx
                rcases hx with rfl | rfl | rfl | rfl | rfl
                · exact Ext.isNew emSKNM nT (by simp)
                · exact nN0
                · exact nM0
                · exact nK0
                · exact nS0
              · simp only [wf_preprocess, ↓reduceIte, Nat.reduceEqDiff, reduceCtorEq, Nat.reduceAdd, Nat.reduceMul, Nat.reduceLeDiff, Nat.reduceLT, Nat.reduceSub, Int.reduceToNat, Int.reduceNeg, Int.reduceAdd, Int.reduceSub, Int.reduceMul, Int.reduceEq, Int.reduceLT, Int.reduceLE, Int.reduceNe, forall_const, forall_eq', forall_eq, List.forall_mem_cons, List.not_mem_nil]
              · simp only [g0, wf_preprocess, ↓reduceIte, Nat.reduceEqDiff, reduceCtorEq, Nat.reduceAdd, Nat.reduceMul, Nat.reduceLeDiff, Nat.reduceLT, Nat.reduceSub, Int.reduceToNat, Int.reduceNeg, Int.reduceAdd, Int.reduceSub, Int.reduceMul, Int.reduceEq, Int.reduceLT, Int.reduceLE, Int.reduceNe, forall_const, forall_eq', forall_eq, List.forall_mem_cons, List.not_mem_nil]
            · simp only [onLst_len hL, hz1, hz2, hz3, Int.natCast_nonneg, Int.le_refl, Int.toNat_natCast, g0, wf_preprocess, ↓reduceIte, Nat.reduceEqDiff, reduceCtorEq, Nat.reduceAdd, Nat.reduceMul, Nat.reduceLeDiff, Nat.reduceLT, Nat.reduceSub, Int.reduceToNat, Int.reduceNeg, Int.reduceAdd, Int.reduceSub, Int.reduceMul, Int.reduceEq, Int.reduceLT, Int.reduceLE, Int.reduceNe, forall_const, forall_eq', forall_eq, List.forall_mem_cons, List.not_mem_nil]
              refine fresh_i fun M nM => ?_
              try rw [hz0]
              have gM : get M ((M, AObj.amap []) :: mSK) = some (AObj.amap []) := get_new
              have xM : Ext [] mSK ((M, AObj.amap []) :: mSK) := .new nM
              simp only [onLst_len hL, hz1, hz2, hz3, Int.natCast_nonneg, Int.le_refl, Int.toNat_natCast, g0, wf_preprocess, ↓reduceIte, Nat.reduceEqDiff, reduceCtorEq, Nat.reduceAdd, Nat.reduceMul, Nat.reduceLeDiff, Nat.reduceLT, Nat.reduceSub, Int.reduceToNat, Int.reduceNeg, Int.reduceAdd, Int.reduceSub, Int.reduceMul, Int.reduceEq, Int.reduceLT, Int.reduceLE, Int.reduceNe, forall_const, forall_eq', forall_eq, List.forall_mem_cons, List.not_mem_nil]
              generalize ((M, AObj.amap []) :: mSK) = mSKM at *
              have dMS : M ≠ S := new_ne gS nM
              have dMK : M ≠ K := new_ne gK nM
              have gS := xM _ _ gS (by simp)
              have gK := xM _ _ gK (by simp)
              have nM0 : M ∉ keys m := Ext.isNew emSK nM (by simp)
              have emSKM : Ext [] m mSKM := emSK.trans xM
              refine call_i (CloneN_s hI h0 (by omega) fun N cN r mSKMN gN xN nN => ?_)
              simp only [onLst_len hL, hz1, hz2, hz3, Int.natCast_nonneg, Int.le_refl, Int.toNat_natCast, g0, wf_preprocess, ↓reduceIte, Nat.reduceEqDiff, reduceCtorEq, Nat.reduceAdd, Nat.reduceMul, Nat.reduceLeDiff, Nat.reduceLT, Nat.reduceSub, Int.reduceToNat, Int.reduceNeg, Int.reduceAdd, Int.reduceSub, Int.reduceMul, Int.reduceEq, Int.reduceLT, Int.reduceLE, Int.reduceNe, forall_const, forall_eq', forall_eq, List.forall_mem_cons, List.not_mem_nil]
              have dNS : N ≠ S := new_ne gS nN
              have dNK : N ≠ K := new_ne gK nN
              have dNM : N ≠ M := new_ne gM nN
              have gS := xN _ _ gS (by simp)
              have gK := xN _ _ gK (by simp)
              have gM := xN _ _ gM (by simp)
              have nN0 : N ∉ keys m := Ext.isNew emSKM nN (by simp)
              have emSKMN : Ext [] m mSKMN := emSKM.trans xN
              refine fresh_i fun T nT => ?_
              simp only [wf_preprocess, ↓reduceIte, Nat.reduceEqDiff, reduceCtorEq, Nat.reduceAdd, Nat.reduceMul, Nat.reduceLeDiff, Nat.reduceLT, Nat.reduceSub, Int.reduceToNat, Int.reduceNeg, Int.reduceAdd, Int.reduceSub, Int.reduceMul, Int.reduceEq, Int.reduceLT, Int.reduceLE, Int.reduceNe, forall_const, forall_eq', forall_eq, List.forall_mem_cons, List.not_mem_nil]
              have eT : Ext [] mSKMN ((T, _) :: mSKMN) := .new (ob := .cells [.mref N 0 L.length cN, .mapp M, .mref K 0 L.length L.length, .lst [] .nil, .lst [] .nil, .mref S 0 L.length L.length]) nT
              have dTS : T ≠ S := new_ne gS nT
              have dTK : T ≠ K := new_ne gK nT
              have dTM : T ≠ M := new_ne gM nT
              have dTN : T ≠ N := new_ne gN nT
              refine ⟨T, N, cN, M, K, S, r, ⟨get_new, eT _ _ gN (by simp), eT _ _ gM (by simp), eT _ _ gK (by simp), eT _ _ gS (by simp), ?_, ?_, emSKMN.trans eT⟩, ?_, ?_⟩
              · simp only [List.nodup_cons, List.mem_cons, List.not_mem_nil, or_false, not_or, not_false_eq_true, and_true, List.nodup_nil, true_and]
                exact ⟨⟨dTN, dTM, dTK, dTS⟩, ⟨dNM, dNK, dNS⟩, ⟨dMK, dMS⟩, dKS⟩
              · intro x hx
                simp only [List.mem_cons, List.not_mem_nil, or_false] at hx
                rcases hx with rfl | rfl | rfl | rfl | rfl
                · exact Ext.isNew emSKMN nT (by simp)
                · exact nN0
                · exact nM0
                · exact nK0
                · exact nS0
              · simp only [wf_preprocess, ↓reduceIte, Nat.reduceEqDiff, reduceCtorEq, Nat.reduceAdd, Nat.reduceMul, Nat.reduceLeDiff, Nat.reduceLT, Nat.reduceSub, Int.reduceToNat, Int.reduceNeg, Int.reduceAdd, Int.reduceSub, Int.reduceMul, Int.reduceEq, Int.reduceLT, Int.reduceLE, Int.reduceNe, forall_const, forall_eq', forall_eq, List.forall_mem_cons, List.not_mem_nil]
              · simp only [g0, wf_preprocess, ↓reduceIte, Nat.reduceEqDiff, reduceCtorEq, Nat.reduceAdd, Nat.reduceMul, Nat.reduceLeDiff, Nat.reduceLT, Nat.reduceSub, Int.reduceToNat, Int.reduceNeg, Int.reduceAdd, Int.reduceSub, Int.reduceMul, Int.reduceEq, Int.reduceLT, Int.reduceLE, Int.reduceNe, forall_const, forall_eq', forall_eq, List.forall_mem_cons, List.not_mem_nil]
end
end Go.Proofs.Ytceahampebofbaa.Moi.Tree
