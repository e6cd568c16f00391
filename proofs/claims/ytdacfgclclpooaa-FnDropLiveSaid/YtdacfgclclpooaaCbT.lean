/- The table of the program's types, by a program of this session (tytab.py), and that it fits the program. Conditions: none. -/
import Derived.Test.YtdacfgclclpooaaCbE
import Derived.Test.YtdacfgclclpooaaChecked
namespace Go.Proofs.Ytdacfgclclpooaa
open Go
noncomputable def tt : TT := fun t => match t with
  | 2 => some ⟨1, 8, false, .i .i64 0, .int .i64⟩
  | 3 => some ⟨1, 8, false, .i .i64 0, .int .i64⟩
  | 4 => some ⟨1, 1, false, .b false, .bool⟩
  | 5 => some ⟨1, 1, false, .i .u8 0, .int .u8⟩
  | 6 => some ⟨1, 1, false, .i .u8 0, .int .u8⟩
  | 7 => some ⟨4, 24, true, .agg [.i .i64 0, .i .i64 0, .b false, .i .u8 0], .struct [(0, 2), (1, 3), (2, 4), (3, 6)]⟩
  | 8 => some ⟨4, 24, true, .agg [.i .i64 0, .i .i64 0, .b false, .i .u8 0], .struct [(0, 2), (1, 3), (2, 4), (3, 6)]⟩
  | 9 => some ⟨1, 16, false, .s [], .str⟩
  | 10 => some ⟨1, 16, false, .s [], .str⟩
  | 11 => some ⟨1, 16, false, .s [], .str⟩
  | 12 => some ⟨1, 8, false, .i .u64 0, .int .u64⟩
  | 13 => some ⟨2, 24, true, .agg [.s [], .i .u64 0], .struct [(0, 9), (1, 12)]⟩
  | 14 => some ⟨2, 24, true, .agg [.s [], .i .u64 0], .struct [(0, 9), (1, 12)]⟩
  | 15 => some ⟨1, 8, false, .nilP, .ptr⟩
  | 16 => some ⟨1, 8, false, .nilP, .ptr⟩
  | 17 => some ⟨1, 8, false, .nilP, .ptr⟩
  | 18 => some ⟨1, 8, true, .agg [.nilP], .struct [(0, 17)]⟩
  | 19 => some ⟨1, 8, true, .agg [.nilP], .struct [(0, 17)]⟩
  | 20 => some ⟨1, 16, false, .err true, .iface⟩
  | 21 => some ⟨1, 4, false, .i .i32 0, .int .i32⟩
  | 22 => some ⟨1, 24, false, .nilS, .slice 5⟩
  | 23 => some ⟨1, 24, false, .nilS, .slice 3⟩
  | 24 => some ⟨3, 72, true, .agg [.nilS, .nilS, .nilS], .struct [(0, 23), (1, 23), (2, 23)]⟩
  | 25 => some ⟨3, 72, true, .agg [.nilS, .nilS, .nilS], .struct [(0, 23), (1, 23), (2, 23)]⟩
  | 26 => some ⟨4, 96, true, .agg [.nilS, .nilS, .nilS, .nilS], .struct [(0, 25), (3, 23)]⟩
  | 27 => some ⟨4, 96, true, .agg [.nilS, .nilS, .nilS, .nilS], .struct [(0, 25), (3, 23)]⟩
  | 28 => some ⟨5, 120, true, .agg [.nilS, .nilS, .nilS, .nilS, .nilS], .struct [(0, 27), (4, 23)]⟩
  | 29 => some ⟨5, 120, true, .agg [.nilS, .nilS, .nilS, .nilS, .nilS], .struct [(0, 27), (4, 23)]⟩
  | 37 => some ⟨1, 24, false, .nilS, .slice 4⟩
  | 62 => some ⟨1, 8, false, .nilP, .ptr⟩
  | 63 => some ⟨1, 24, false, .nilS, .slice 23⟩
  | 68 => some ⟨1, 8, false, .nilP, .ptr⟩
  | 76 => some ⟨2, 32, true, .agg [.nilS, .i .i64 0], .struct [(0, 22), (1, 3)]⟩
  | 77 => some ⟨2, 32, true, .agg [.nilS, .i .i64 0], .struct [(0, 22), (1, 3)]⟩
  | 83 => some ⟨1, 8, false, .i .u64 0, .int .u64⟩
  | 88 => some ⟨1, 4, false, .i .u32 0, .int .u32⟩
  | 91 => some ⟨1, 8, false, .i .u64 0, .int .u64⟩
  | 96 => some ⟨4, 40, true, .agg [.nilP, .nilP, .nilP, .s []], .struct [(0, 17), (1, 17), (2, 17), (3, 9)]⟩
  | 97 => some ⟨4, 40, true, .agg [.nilP, .nilP, .nilP, .s []], .struct [(0, 17), (1, 17), (2, 17), (3, 9)]⟩
  | 98 => some ⟨0, 0, true, .agg [], .arr 0 16⟩
  | 99 => some ⟨0, 0, true, .agg [], .struct [(0, 98)]⟩
  | 100 => some ⟨0, 0, true, .agg [], .struct [(0, 98)]⟩
  | 102 => some ⟨1, 1, false, .i .u8 0, .int .u8⟩
  | 103 => some ⟨1, 1, false, .i .u8 0, .int .u8⟩
  | 105 => some ⟨1, 8, false, .nilP, .ptr⟩
  | 106 => some ⟨1, 4, false, .i .i32 0, .int .i32⟩
  | 107 => some ⟨1, 4, false, .i .i32 0, .int .i32⟩
  | 108 => some ⟨11, 48, true, .agg [.i .u64 0, .i .u64 0, .i .u32 0, .i .u8 0, .i .u8 0, .i .u8 0, .i .u8 0, .u, .nilP, .i .i32 0, .i .i32 0], .struct [(0, 12), (1, 12), (2, 88), (3, 102), (4, 5), (5, 5), (6, 103), (7, 104), (8, 105), (9, 106), (10, 107)]⟩
  | 109 => some ⟨11, 48, true, .agg [.i .u64 0, .i .u64 0, .i .u32 0, .i .u8 0, .i .u8 0, .i .u8 0, .i .u8 0, .u, .nilP, .i .i32 0, .i .i32 0], .struct [(0, 12), (1, 12), (2, 88), (3, 102), (4, 5), (5, 5), (6, 103), (7, 104), (8, 105), (9, 106), (10, 107)]⟩
  | 111 => some ⟨1, 8, false, .nilP, .scal⟩
  | _ => none
theorem tt2 : tt 2 = some ⟨1, 8, false, .i .i64 0, .int .i64⟩ := rfl
theorem tt3 : tt 3 = some ⟨1, 8, false, .i .i64 0, .int .i64⟩ := rfl
theorem tt4 : tt 4 = some ⟨1, 1, false, .b false, .bool⟩ := rfl
theorem tt5 : tt 5 = some ⟨1, 1, false, .i .u8 0, .int .u8⟩ := rfl
theorem tt6 : tt 6 = some ⟨1, 1, false, .i .u8 0, .int .u8⟩ := rfl
theorem tt7 : tt 7 = some ⟨4, 24, true, .agg [.i .i64 0, .i .i64 0, .b false, .i .u8 0], .struct [(0, 2), (1, 3), (2, 4), (3, 6)]⟩ := rfl
theorem tt8 : tt 8 = some ⟨4, 24, true, .agg [.i .i64 0, .i .i64 0, .b false, .i .u8 0], .struct [(0, 2), (1, 3), (2, 4), (3, 6)]⟩ := rfl
theorem tt9 : tt 9 = some ⟨1, 16, false, .s [], .str⟩ := rfl
theorem tt10 : tt 10 = some ⟨1, 16, false, .s [], .str⟩ := rfl
theorem tt11 : tt 11 = some ⟨1, 16, false, .s [], .str⟩ := rfl
theorem tt12 : tt 12 = some ⟨1, 8, false, .i .u64 0, .int .u64⟩ := rfl
theorem tt13 : tt 13 = some ⟨2, 24, true, .agg [.s [], .i .u64 0], .struct [(0, 9), (1, 12)]⟩ := rfl
theorem tt14 : tt 14 = some ⟨2, 24, true, .agg [.s [], .i .u64 0], .struct [(0, 9), (1, 12)]⟩ := rfl
theorem tt15 : tt 15 = some ⟨1, 8, false, .nilP, .ptr⟩ := rfl
theorem tt16 : tt 16 = some ⟨1, 8, false, .nilP, .ptr⟩ := rfl
theorem tt17 : tt 17 = some ⟨1, 8, false, .nilP, .ptr⟩ := rfl
theorem tt18 : tt 18 = some ⟨1, 8, true, .agg [.nilP], .struct [(0, 17)]⟩ := rfl
theorem tt19 : tt 19 = some ⟨1, 8, true, .agg [.nilP], .struct [(0, 17)]⟩ := rfl
theorem tt20 : tt 20 = some ⟨1, 16, false, .err true, .iface⟩ := rfl
theorem tt21 : tt 21 = some ⟨1, 4, false, .i .i32 0, .int .i32⟩ := rfl
theorem tt22 : tt 22 = some ⟨1, 24, false, .nilS, .slice 5⟩ := rfl
theorem tt23 : tt 23 = some ⟨1, 24, false, .nilS, .slice 3⟩ := rfl
theorem tt24 : tt 24 = some ⟨3, 72, true, .agg [.nilS, .nilS, .nilS], .struct [(0, 23), (1, 23), (2, 23)]⟩ := rfl
theorem tt25 : tt 25 = some ⟨3, 72, true, .agg [.nilS, .nilS, .nilS], .struct [(0, 23), (1, 23), (2, 23)]⟩ := rfl
theorem tt26 : tt 26 = some ⟨4, 96, true, .agg [.nilS, .nilS, .nilS, .nilS], .struct [(0, 25), (3, 23)]⟩ := rfl
theorem tt27 : tt 27 = some ⟨4, 96, true, .agg [.nilS, .nilS, .nilS, .nilS], .struct [(0, 25), (3, 23)]⟩ := rfl
theorem tt28 : tt 28 = some ⟨5, 120, true, .agg [.nilS, .nilS, .nilS, .nilS, .nilS], .struct [(0, 27), (4, 23)]⟩ := rfl
theorem tt29 : tt 29 = some ⟨5, 120, true, .agg [.nilS, .nilS, .nilS, .nilS, .nilS], .struct [(0, 27), (4, 23)]⟩ := rfl
theorem tt37 : tt 37 = some ⟨1, 24, false, .nilS, .slice 4⟩ := rfl
theorem tt62 : tt 62 = some ⟨1, 8, false, .nilP, .ptr⟩ := rfl
theorem tt63 : tt 63 = some ⟨1, 24, false, .nilS, .slice 23⟩ := rfl
theorem tt68 : tt 68 = some ⟨1, 8, false, .nilP, .ptr⟩ := rfl
theorem tt76 : tt 76 = some ⟨2, 32, true, .agg [.nilS, .i .i64 0], .struct [(0, 22), (1, 3)]⟩ := rfl
theorem tt77 : tt 77 = some ⟨2, 32, true, .agg [.nilS, .i .i64 0], .struct [(0, 22), (1, 3)]⟩ := rfl
theorem tt83 : tt 83 = some ⟨1, 8, false, .i .u64 0, .int .u64⟩ := rfl
theorem tt88 : tt 88 = some ⟨1, 4, false, .i .u32 0, .int .u32⟩ := rfl
theorem tt91 : tt 91 = some ⟨1, 8, false, .i .u64 0, .int .u64⟩ := rfl
theorem tt96 : tt 96 = some ⟨4, 40, true, .agg [.nilP, .nilP, .nilP, .s []], .struct [(0, 17), (1, 17), (2, 17), (3, 9)]⟩ := rfl
theorem tt97 : tt 97 = some ⟨4, 40, true, .agg [.nilP, .nilP, .nilP, .s []], .struct [(0, 17), (1, 17), (2, 17), (3, 9)]⟩ := rfl
theorem tt98 : tt 98 = some ⟨0, 0, true, .agg [], .arr 0 16⟩ := rfl
theorem tt99 : tt 99 = some ⟨0, 0, true, .agg [], .struct [(0, 98)]⟩ := rfl
theorem tt100 : tt 100 = some ⟨0, 0, true, .agg [], .struct [(0, 98)]⟩ := rfl
theorem tt102 : tt 102 = some ⟨1, 1, false, .i .u8 0, .int .u8⟩ := rfl
theorem tt103 : tt 103 = some ⟨1, 1, false, .i .u8 0, .int .u8⟩ := rfl
theorem tt105 : tt 105 = some ⟨1, 8, false, .nilP, .ptr⟩ := rfl
theorem tt106 : tt 106 = some ⟨1, 4, false, .i .i32 0, .int .i32⟩ := rfl
theorem tt107 : tt 107 = some ⟨1, 4, false, .i .i32 0, .int .i32⟩ := rfl
theorem tt108 : tt 108 = some ⟨11, 48, true, .agg [.i .u64 0, .i .u64 0, .i .u32 0, .i .u8 0, .i .u8 0, .i .u8 0, .i .u8 0, .u, .nilP, .i .i32 0, .i .i32 0], .struct [(0, 12), (1, 12), (2, 88), (3, 102), (4, 5), (5, 5), (6, 103), (7, 104), (8, 105), (9, 106), (10, 107)]⟩ := rfl
theorem tt109 : tt 109 = some ⟨11, 48, true, .agg [.i .u64 0, .i .u64 0, .i .u32 0, .i .u8 0, .i .u8 0, .i .u8 0, .i .u8 0, .u, .nilP, .i .i32 0, .i .i32 0], .struct [(0, 12), (1, 12), (2, 88), (3, 102), (4, 5), (5, 5), (6, 103), (7, 104), (8, 105), (9, 106), (10, 107)]⟩ := rfl
theorem tt111 : tt 111 = some ⟨1, 8, false, .nilP, .scal⟩ := rfl
set_option maxRecDepth 10000 in
theorem TTs : type_of% (And.intro @tt2 <| And.intro @tt3 <| And.intro @tt4 <| And.intro @tt5 <| And.intro @tt6 <| And.intro @tt7 <| And.intro @tt8 <| And.intro @tt9 <| And.intro @tt10 <| And.intro @tt11 <| And.intro @tt12 <| And.intro @tt13 <| And.intro @tt14 <| And.intro @tt15 <| And.intro @tt16 <| And.intro @tt17 <| And.intro @tt18 <| And.intro @tt19 <| And.intro @tt20 <| And.intro @tt21 <| And.intro @tt22 <| And.intro @tt23 <| And.intro @tt24 <| And.intro @tt25 <| And.intro @tt26 <| And.intro @tt27 <| And.intro @tt28 <| And.intro @tt29 <| And.intro @tt37 <| And.intro @tt62 <| And.intro @tt63 <| And.intro @tt68 <| And.intro @tt76 <| And.intro @tt77 <| And.intro @tt83 <| And.intro @tt88 <| And.intro @tt91 <| And.intro @tt96 <| And.intro @tt97 <| And.intro @tt98 <| And.intro @tt99 <| And.intro @tt100 <| And.intro @tt102 <| And.intro @tt103 <| And.intro @tt105 <| And.intro @tt106 <| And.intro @tt107 <| And.intro @tt108 <| And.intro @tt109 <| @tt111) :=
  And.intro @tt2 <| And.intro @tt3 <| And.intro @tt4 <| And.intro @tt5 <| And.intro @tt6 <| And.intro @tt7 <| And.intro @tt8 <| And.intro @tt9 <| And.intro @tt10 <| And.intro @tt11 <| And.intro @tt12 <| And.intro @tt13 <| And.intro @tt14 <| And.intro @tt15 <| And.intro @tt16 <| And.intro @tt17 <| And.intro @tt18 <| And.intro @tt19 <| And.intro @tt20 <| And.intro @tt21 <| And.intro @tt22 <| And.intro @tt23 <| And.intro @tt24 <| And.intro @tt25 <| And.intro @tt26 <| And.intro @tt27 <| And.intro @tt28 <| And.intro @tt29 <| And.intro @tt37 <| And.intro @tt62 <| And.intro @tt63 <| And.intro @tt68 <| And.intro @tt76 <| And.intro @tt77 <| And.intro @tt83 <| And.intro @tt88 <| And.intro @tt91 <| And.intro @tt96 <| And.intro @tt97 <| And.intro @tt98 <| And.intro @tt99 <| And.intro @tt100 <| And.intro @tt102 <| And.intro @tt103 <| And.intro @tt105 <| And.intro @tt106 <| And.intro @tt107 <| And.intro @tt108 <| And.intro @tt109 <| @tt111
set_option maxRecDepth 100000 in
theorem ttOk : TOk Try.prog tt := by
  intro t ti h
  unfold tt at h
  split at h <;> first | (cases h; exact tiChk_ok (by kernel_rfl)) | (cases h; done)
end Go.Proofs.Ytdacfgclclpooaa
