/-
  Closed runs of functions at known arguments, kept as contracts; the last one is the whole call.
  Conditions: none; lemmas.
-/
import Derived.Test.YtcdhajbhpnbdkaaDoorAbsMemo
import Derived.Test.YtcdhajbhpnbdkaaDoorBase
set_option linter.unusedSimpArgs false
set_option linter.unusedVariables false
set_option linter.unusedSectionVars false
namespace Go.Proofs.YtcdhajbhpnbdkaaDoor
open Go.Abs

def answers (r : Option (Value × AHeap)) : Bool :=
  match r with
  | some (.bool true, _) => true
  | _ => false
theorem answers_some {r : Option (Value × AHeap)} (h : answers r = true) : ∃ h', r = some (.bool true, h') := by
  unfold answers at h
  split at h
  · exact ⟨_, rfl⟩
  · cases h
theorem ntabs : Tryd.prog.globals.size = tabs.length := nglob

def m1 : Memo := ⟨33, [.agg #[.int .i64 1, .slice (some ⟨2, 0, none⟩) 4 roCap]], [⟨[.int .i64 0, .int .i64 0, .int .i64 1, .int .i64 0], 0, false, false⟩], .tuple #[.int .i64 3, .int .i64 0], []⟩
theorem m1_ok : MemosOK Tryd.prog tabs [m1] := memos_cons mix ntabs (memos_nil _) (n := 100000) (by kernel_rfl)

def m2 : Memo := ⟨37, [.agg #[.int .i64 1, .slice (some ⟨2, 0, none⟩) 4 roCap]], [⟨[.int .i64 0, .int .i64 0, .int .i64 1, .int .i64 0], 0, false, false⟩], .tuple #[.int .i64 1, .int .i64 0], []⟩
theorem m2_ok : MemosOK Tryd.prog tabs [m2, m1] := memos_cons mix ntabs m1_ok (n := 100000) (by kernel_rfl)

def m3 : Memo := ⟨19, [.agg #[.int .i64 4, .slice (some ⟨2, 0, none⟩) 12 roCap], .slice (some ⟨3, 0, none⟩) 12 roCap], [⟨[.int .i64 0, .int .i64 1, .int .i64 2, .int .i64 3, .int .i64 0, .int .i64 1, .int .i64 4, .int .i64 0, .int .i64 1, .int .i64 2, .int .i64 3, .int .i64 4], 0, false, false⟩, ⟨[.int .i64 (-1), .int .i64 (-1), .int .i64 (-1), .int .i64 (-1), .int .i64 (-1), .int .i64 (-1), .int .i64 2, .int .i64 (-1), .int .i64 (-1), .int .i64 3, .int .i64 4, .int .i64 0], 0, false, false⟩], .tuple #[.int .i64 8, .int .i64 0], []⟩
theorem m3_ok : MemosOK Tryd.prog tabs [m3, m2, m1] := memos_cons mix ntabs m2_ok (n := 100000) (by kernel_rfl)

def m4 : Memo := ⟨66, [.agg #[.int .i64 4, .slice (some ⟨2, 0, none⟩) 12 roCap], .slice (some ⟨3, 0, none⟩) 12 roCap], [⟨[.int .i64 0, .int .i64 1, .int .i64 2, .int .i64 3, .int .i64 0, .int .i64 1, .int .i64 4, .int .i64 0, .int .i64 1, .int .i64 2, .int .i64 3, .int .i64 4], 0, false, false⟩, ⟨[.int .i64 (-1), .int .i64 (-1), .int .i64 (-1), .int .i64 (-1), .int .i64 (-1), .int .i64 (-1), .int .i64 2, .int .i64 (-1), .int .i64 (-1), .int .i64 3, .int .i64 4, .int .i64 0], 0, false, false⟩], .tuple #[.slice (some ⟨0, 0, none⟩) 12 roCap, .int .i64 8, .int .i64 0], [⟨[.int .u64 1, .int .u64 3, .int .u64 7, .int .u64 15, .int .u64 15, .int .u64 15, .int .u64 27, .int .u64 27, .int .u64 27, .int .u64 23, .int .u64 15, .int .u64 30], 0, false, false⟩]⟩
theorem m4_ok : MemosOK Tryd.prog tabs [m4, m3, m2, m1] := memos_cons mix ntabs m3_ok (n := 100000) (by kernel_rfl)

def m5 : Memo := ⟨66, [.agg #[.int .i64 3, .slice (some ⟨2, 0, none⟩) 12 roCap], .slice (some ⟨3, 0, none⟩) 12 roCap], [⟨[.int .i64 0, .int .i64 1, .int .i64 2, .int .i64 3, .int .i64 0, .int .i64 1, .int .i64 4, .int .i64 0, .int .i64 1, .int .i64 2, .int .i64 3, .int .i64 4], 0, false, false⟩, ⟨[.int .i64 (-1), .int .i64 (-1), .int .i64 (-1), .int .i64 0, .int .i64 1, .int .i64 2, .int .i64 3, .int .i64 (-1), .int .i64 (-1), .int .i64 4, .int .i64 0, .int .i64 1], 0, false, false⟩], .tuple #[.slice (some ⟨0, 0, none⟩) 12 roCap, .int .i64 10, .int .i64 0], [⟨[.int .u64 1, .int .u64 3, .int .u64 7, .int .u64 14, .int .u64 13, .int .u64 11, .int .u64 19, .int .u64 19, .int .u64 19, .int .u64 7, .int .u64 14, .int .u64 28], 0, false, false⟩]⟩
theorem m5_ok : MemosOK Tryd.prog tabs [m5, m4, m3, m2, m1] := memos_cons mix ntabs m4_ok (n := 100000) (by kernel_rfl)

def m6 : Memo := ⟨30, [.agg #[.int .i64 4, .slice (some ⟨2, 0, none⟩) 12 roCap]], [⟨[.int .i64 0, .int .i64 1, .int .i64 2, .int .i64 3, .int .i64 0, .int .i64 1, .int .i64 4, .int .i64 0, .int .i64 1, .int .i64 2, .int .i64 3, .int .i64 4], 0, false, false⟩], .tuple #[.slice (some ⟨0, 0, none⟩) 12 roCap, .int .i64 0], [⟨[.int .i64 (-1), .int .i64 (-1), .int .i64 (-1), .int .i64 (-1), .int .i64 (-1), .int .i64 (-1), .int .i64 2, .int .i64 (-1), .int .i64 (-1), .int .i64 3, .int .i64 4, .int .i64 0], 0, false, false⟩]⟩
theorem m6_ok : MemosOK Tryd.prog tabs [m6, m5, m4, m3, m2, m1] := memos_cons mix ntabs m5_ok (n := 100000) (by kernel_rfl)

def m7 : Memo := ⟨37, [.agg #[.int .i64 2, .slice (some ⟨2, 0, none⟩) 5 roCap]], [⟨[.int .i64 0, .int .i64 1, .int .i64 2, .int .i64 0, .int .i64 1], 0, false, false⟩], .tuple #[.int .i64 3, .int .i64 0], []⟩
theorem m7_ok : MemosOK Tryd.prog tabs [m7, m6, m5, m4, m3, m2, m1] := memos_cons mix ntabs m6_ok (n := 100000) (by kernel_rfl)

def m8 : Memo := ⟨33, [.agg #[.int .i64 2, .slice (some ⟨2, 0, none⟩) 5 roCap]], [⟨[.int .i64 0, .int .i64 1, .int .i64 2, .int .i64 0, .int .i64 1], 0, false, false⟩], .tuple #[.int .i64 4, .int .i64 0], []⟩
theorem m8_ok : MemosOK Tryd.prog tabs [m8, m7, m6, m5, m4, m3, m2, m1] := memos_cons mix ntabs m7_ok (n := 100000) (by kernel_rfl)

def m9 : Memo := ⟨30, [.agg #[.int .i64 3, .slice (some ⟨2, 0, none⟩) 12 roCap]], [⟨[.int .i64 0, .int .i64 1, .int .i64 2, .int .i64 3, .int .i64 0, .int .i64 1, .int .i64 4, .int .i64 0, .int .i64 1, .int .i64 2, .int .i64 3, .int .i64 4], 0, false, false⟩], .tuple #[.slice (some ⟨0, 0, none⟩) 12 roCap, .int .i64 0], [⟨[.int .i64 (-1), .int .i64 (-1), .int .i64 (-1), .int .i64 0, .int .i64 1, .int .i64 2, .int .i64 3, .int .i64 (-1), .int .i64 (-1), .int .i64 4, .int .i64 0, .int .i64 1], 0, false, false⟩]⟩
theorem m9_ok : MemosOK Tryd.prog tabs [m9, m8, m7, m6, m5, m4, m3, m2, m1] := memos_cons mix ntabs m8_ok (n := 100000) (by kernel_rfl)

def m10 : Memo := ⟨35, [.agg #[.int .i64 2, .slice (some ⟨2, 0, none⟩) 5 roCap]], [⟨[.int .i64 0, .int .i64 1, .int .i64 2, .int .i64 0, .int .i64 1], 0, false, false⟩], .tuple #[.slice (some ⟨0, 0, none⟩) 5 roCap, .int .i64 0], [⟨[.int .i64 (-1), .int .i64 (-1), .int .i64 0, .int .i64 2, .int .i64 (-1)], 0, false, false⟩]⟩
theorem m10_ok : MemosOK Tryd.prog tabs [m10, m9, m8, m7, m6, m5, m4, m3, m2, m1] := memos_cons mix ntabs m9_ok (n := 100000) (by kernel_rfl)

def m11 : Memo := ⟨43, [.agg #[.int .i64 1, .slice (some ⟨2, 0, none⟩) 4 roCap]], [⟨[.int .i64 0, .int .i64 0, .int .i64 1, .int .i64 0], 0, false, false⟩], .tuple #[.slice (some ⟨0, 0, none⟩) 1 roCap, .int .i64 0], [⟨[.int .i64 2], 0, false, false⟩]⟩
theorem m11_ok : MemosOK Tryd.prog tabs [m11, m10, m9, m8, m7, m6, m5, m4, m3, m2, m1] := memos_cons mix ntabs m10_ok (n := 100000) (by kernel_rfl)

def m12 : Memo := ⟨43, [.agg #[.int .i64 2, .slice (some ⟨2, 0, none⟩) 5 roCap]], [⟨[.int .i64 0, .int .i64 1, .int .i64 2, .int .i64 0, .int .i64 1], 0, false, false⟩], .tuple #[.slice (some ⟨0, 0, none⟩) 1 roCap, .int .i64 0], [⟨[.int .i64 2], 0, false, false⟩]⟩
theorem m12_ok : MemosOK Tryd.prog tabs [m12, m11, m10, m9, m8, m7, m6, m5, m4, m3, m2, m1] := memos_cons mix ntabs m11_ok (n := 100000) (by kernel_rfl)

def m13 : Memo := ⟨33, [.agg #[.int .i64 4, .slice (some ⟨2, 0, none⟩) 12 roCap]], [⟨[.int .i64 0, .int .i64 1, .int .i64 2, .int .i64 3, .int .i64 0, .int .i64 1, .int .i64 4, .int .i64 0, .int .i64 1, .int .i64 2, .int .i64 3, .int .i64 4], 0, false, false⟩], .tuple #[.int .i64 6, .int .i64 0], []⟩
theorem m13_ok : MemosOK Tryd.prog tabs [m13, m12, m11, m10, m9, m8, m7, m6, m5, m4, m3, m2, m1] := memos_cons mix ntabs m12_ok (n := 100000) (by kernel_rfl)

def m14 : Memo := ⟨33, [.agg #[.int .i64 3, .slice (some ⟨2, 0, none⟩) 12 roCap]], [⟨[.int .i64 0, .int .i64 1, .int .i64 2, .int .i64 3, .int .i64 0, .int .i64 1, .int .i64 4, .int .i64 0, .int .i64 1, .int .i64 2, .int .i64 3, .int .i64 4], 0, false, false⟩], .tuple #[.int .i64 7, .int .i64 0], []⟩
theorem m14_ok : MemosOK Tryd.prog tabs [m14, m13, m12, m11, m10, m9, m8, m7, m6, m5, m4, m3, m2, m1] := memos_cons mix ntabs m13_ok (n := 100000) (by kernel_rfl)

def m15 : Memo := ⟨18, [], [], .bool true, []⟩
theorem m15_ok : MemosOK Tryd.prog tabs [m15, m14, m13, m12, m11, m10, m9, m8, m7, m6, m5, m4, m3, m2, m1] := memos_cons mix ntabs m14_ok (n := 100000) (by kernel_rfl)

theorem root_run : answers (Abs.run Tryd.prog (memosO tabs [m15, m14, m13, m12, m11, m10, m9, m8, m7, m6, m5, m4, m3, m2, m1]) 100000 12 [] (heapOf (tabs ++ []))) = true := by kernel_rfl
theorem root_memos : MemosOK Tryd.prog tabs [m15, m14, m13, m12, m11, m10, m9, m8, m7, m6, m5, m4, m3, m2, m1] := m15_ok
end Go.Proofs.YtcdhajbhpnbdkaaDoor
