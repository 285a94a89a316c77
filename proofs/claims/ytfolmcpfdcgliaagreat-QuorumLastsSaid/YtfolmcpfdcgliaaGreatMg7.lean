import Derived.Test.YtfolmcpfdcgliaaGreatMg6
import Derived.Test.YtfolmcpfdcgliaaGreatProg
import Derived.KernelRfl
set_option linter.unusedVariables false
set_option maxRecDepth 100000
/-! The table of types, and what a call enters. Laid by wip/gentab.py. -/
namespace Go.Proofs.YtfolmcpfdcgliaaGreat.B
open Go Go.Proofs
abbrev e1 : TE := ⟨.func, 1, 8, .nilFunc⟩
theorem u1 : (Tryz.prog.underlying 1).map tdOf = some e1.td := by kernel_rfl
theorem i1 : (Tryz.prog.info? 1).map (fun i => (i.zero, i.size, i.bytes)) = some (some e1.zero, e1.size, e1.bytes) := by kernel_rfl
abbrev e2 : TE := ⟨.int .i64, 1, 8, .int .i64 0⟩
theorem u2 : (Tryz.prog.underlying 2).map tdOf = some e2.td := by kernel_rfl
theorem i2 : (Tryz.prog.info? 2).map (fun i => (i.zero, i.size, i.bytes)) = some (some e2.zero, e2.size, e2.bytes) := by kernel_rfl
abbrev e3 : TE := ⟨.int .i64, 1, 8, .int .i64 0⟩
theorem u3 : (Tryz.prog.underlying 3).map tdOf = some e3.td := by kernel_rfl
theorem i3 : (Tryz.prog.info? 3).map (fun i => (i.zero, i.size, i.bytes)) = some (some e3.zero, e3.size, e3.bytes) := by kernel_rfl
abbrev e4 : TE := ⟨.bool, 1, 1, .bool false⟩
theorem u4 : (Tryz.prog.underlying 4).map tdOf = some e4.td := by kernel_rfl
theorem i4 : (Tryz.prog.info? 4).map (fun i => (i.zero, i.size, i.bytes)) = some (some e4.zero, e4.size, e4.bytes) := by kernel_rfl
abbrev e5 : TE := ⟨.int .u8, 1, 1, .int .u8 0⟩
theorem u5 : (Tryz.prog.underlying 5).map tdOf = some e5.td := by kernel_rfl
theorem i5 : (Tryz.prog.info? 5).map (fun i => (i.zero, i.size, i.bytes)) = some (some e5.zero, e5.size, e5.bytes) := by kernel_rfl
abbrev e9 : TE := ⟨.string, 1, 16, .string ⟨#[]⟩⟩
theorem u9 : (Tryz.prog.underlying 9).map tdOf = some e9.td := by kernel_rfl
theorem i9 : (Tryz.prog.info? 9).map (fun i => (i.zero, i.size, i.bytes)) = some (some e9.zero, e9.size, e9.bytes) := by kernel_rfl
abbrev e12 : TE := ⟨.int .u64, 1, 8, .int .u64 0⟩
theorem u12 : (Tryz.prog.underlying 12).map tdOf = some e12.td := by kernel_rfl
theorem i12 : (Tryz.prog.info? 12).map (fun i => (i.zero, i.size, i.bytes)) = some (some e12.zero, e12.size, e12.bytes) := by kernel_rfl
abbrev e13 : TE := ⟨.struct [(9, 0), (12, 1)], 2, 24, .agg #[.string ⟨#[]⟩, .int .u64 0]⟩
theorem u13 : (Tryz.prog.underlying 13).map tdOf = some e13.td := by kernel_rfl
theorem i13 : (Tryz.prog.info? 13).map (fun i => (i.zero, i.size, i.bytes)) = some (some e13.zero, e13.size, e13.bytes) := by kernel_rfl
abbrev e20 : TE := ⟨.iface, 1, 16, .nilIface⟩
theorem u20 : (Tryz.prog.underlying 20).map tdOf = some e20.td := by kernel_rfl
theorem i20 : (Tryz.prog.info? 20).map (fun i => (i.zero, i.size, i.bytes)) = some (some e20.zero, e20.size, e20.bytes) := by kernel_rfl
abbrev e21 : TE := ⟨.int .i32, 1, 4, .int .i32 0⟩
theorem u21 : (Tryz.prog.underlying 21).map tdOf = some e21.td := by kernel_rfl
theorem i21 : (Tryz.prog.info? 21).map (fun i => (i.zero, i.size, i.bytes)) = some (some e21.zero, e21.size, e21.bytes) := by kernel_rfl
abbrev e22 : TE := ⟨.func, 1, 8, .nilFunc⟩
theorem u22 : (Tryz.prog.underlying 22).map tdOf = some e22.td := by kernel_rfl
theorem i22 : (Tryz.prog.info? 22).map (fun i => (i.zero, i.size, i.bytes)) = some (some e22.zero, e22.size, e22.bytes) := by kernel_rfl
abbrev e23 : TE := ⟨.func, 1, 8, .nilFunc⟩
theorem u23 : (Tryz.prog.underlying 23).map tdOf = some e23.td := by kernel_rfl
theorem i23 : (Tryz.prog.info? 23).map (fun i => (i.zero, i.size, i.bytes)) = some (some e23.zero, e23.size, e23.bytes) := by kernel_rfl
abbrev e24 : TE := ⟨.ptr 35, 1, 8, .pointer none⟩
theorem u24 : (Tryz.prog.underlying 24).map tdOf = some e24.td := by kernel_rfl
theorem i24 : (Tryz.prog.info? 24).map (fun i => (i.zero, i.size, i.bytes)) = some (some e24.zero, e24.size, e24.bytes) := by kernel_rfl
abbrev e25 : TE := ⟨.ptr 62, 1, 8, .pointer none⟩
theorem u25 : (Tryz.prog.underlying 25).map tdOf = some e25.td := by kernel_rfl
theorem i25 : (Tryz.prog.info? 25).map (fun i => (i.zero, i.size, i.bytes)) = some (some e25.zero, e25.size, e25.bytes) := by kernel_rfl
abbrev e27 : TE := ⟨.func, 1, 8, .nilFunc⟩
theorem u27 : (Tryz.prog.underlying 27).map tdOf = some e27.td := by kernel_rfl
theorem i27 : (Tryz.prog.info? 27).map (fun i => (i.zero, i.size, i.bytes)) = some (some e27.zero, e27.size, e27.bytes) := by kernel_rfl
abbrev e28 : TE := ⟨.slice 3, 1, 24, .slice none 0 0⟩
theorem u28 : (Tryz.prog.underlying 28).map tdOf = some e28.td := by kernel_rfl
theorem i28 : (Tryz.prog.info? 28).map (fun i => (i.zero, i.size, i.bytes)) = some (some e28.zero, e28.size, e28.bytes) := by kernel_rfl
abbrev e29 : TE := ⟨.ptr 92, 1, 8, .pointer none⟩
theorem u29 : (Tryz.prog.underlying 29).map tdOf = some e29.td := by kernel_rfl
theorem i29 : (Tryz.prog.info? 29).map (fun i => (i.zero, i.size, i.bytes)) = some (some e29.zero, e29.size, e29.bytes) := by kernel_rfl
abbrev e30 : TE := ⟨.func, 1, 8, .nilFunc⟩
theorem u30 : (Tryz.prog.underlying 30).map tdOf = some e30.td := by kernel_rfl
theorem i30 : (Tryz.prog.info? 30).map (fun i => (i.zero, i.size, i.bytes)) = some (some e30.zero, e30.size, e30.bytes) := by kernel_rfl
abbrev e31 : TE := ⟨.slice 76, 1, 24, .slice none 0 0⟩
theorem u31 : (Tryz.prog.underlying 31).map tdOf = some e31.td := by kernel_rfl
theorem i31 : (Tryz.prog.info? 31).map (fun i => (i.zero, i.size, i.bytes)) = some (some e31.zero, e31.size, e31.bytes) := by kernel_rfl
abbrev e32 : TE := ⟨.slice 46, 1, 24, .slice none 0 0⟩
theorem u32 : (Tryz.prog.underlying 32).map tdOf = some e32.td := by kernel_rfl
theorem i32 : (Tryz.prog.info? 32).map (fun i => (i.zero, i.size, i.bytes)) = some (some e32.zero, e32.size, e32.bytes) := by kernel_rfl
abbrev e33 : TE := ⟨.ptr 118, 1, 8, .pointer none⟩
theorem u33 : (Tryz.prog.underlying 33).map tdOf = some e33.td := by kernel_rfl
theorem i33 : (Tryz.prog.info? 33).map (fun i => (i.zero, i.size, i.bytes)) = some (some e33.zero, e33.size, e33.bytes) := by kernel_rfl
abbrev e34 : TE := ⟨.struct [(31, 0), (32, 1), (33, 2)], 3, 56, .agg #[.slice none 0 0, .slice none 0 0, .pointer none]⟩
theorem u34 : (Tryz.prog.underlying 34).map tdOf = some e34.td := by kernel_rfl
theorem i34 : (Tryz.prog.info? 34).map (fun i => (i.zero, i.size, i.bytes)) = some (some e34.zero, e34.size, e34.bytes) := by kernel_rfl
abbrev e35 : TE := ⟨.struct [(31, 0), (32, 1), (33, 2)], 3, 56, .agg #[.slice none 0 0, .slice none 0 0, .pointer none]⟩
theorem u35 : (Tryz.prog.underlying 35).map tdOf = some e35.td := by kernel_rfl
theorem i35 : (Tryz.prog.info? 35).map (fun i => (i.zero, i.size, i.bytes)) = some (some e35.zero, e35.size, e35.bytes) := by kernel_rfl
abbrev e36 : TE := ⟨.slice 49, 1, 24, .slice none 0 0⟩
theorem u36 : (Tryz.prog.underlying 36).map tdOf = some e36.td := by kernel_rfl
theorem i36 : (Tryz.prog.info? 36).map (fun i => (i.zero, i.size, i.bytes)) = some (some e36.zero, e36.size, e36.bytes) := by kernel_rfl
abbrev e37 : TE := ⟨.int .i64, 1, 8, .int .i64 0⟩
theorem u37 : (Tryz.prog.underlying 37).map tdOf = some e37.td := by kernel_rfl
theorem i37 : (Tryz.prog.info? 37).map (fun i => (i.zero, i.size, i.bytes)) = some (some e37.zero, e37.size, e37.bytes) := by kernel_rfl
abbrev e39 : TE := ⟨.func, 1, 8, .nilFunc⟩
theorem u39 : (Tryz.prog.underlying 39).map tdOf = some e39.td := by kernel_rfl
theorem i39 : (Tryz.prog.info? 39).map (fun i => (i.zero, i.size, i.bytes)) = some (some e39.zero, e39.size, e39.bytes) := by kernel_rfl
abbrev e40 : TE := ⟨.func, 1, 8, .nilFunc⟩
theorem u40 : (Tryz.prog.underlying 40).map tdOf = some e40.td := by kernel_rfl
theorem i40 : (Tryz.prog.info? 40).map (fun i => (i.zero, i.size, i.bytes)) = some (some e40.zero, e40.size, e40.bytes) := by kernel_rfl
abbrev e41 : TE := ⟨.func, 1, 8, .nilFunc⟩
theorem u41 : (Tryz.prog.underlying 41).map tdOf = some e41.td := by kernel_rfl
theorem i41 : (Tryz.prog.info? 41).map (fun i => (i.zero, i.size, i.bytes)) = some (some e41.zero, e41.size, e41.bytes) := by kernel_rfl
abbrev e42 : TE := ⟨.func, 1, 8, .nilFunc⟩
theorem u42 : (Tryz.prog.underlying 42).map tdOf = some e42.td := by kernel_rfl
theorem i42 : (Tryz.prog.info? 42).map (fun i => (i.zero, i.size, i.bytes)) = some (some e42.zero, e42.size, e42.bytes) := by kernel_rfl
abbrev e43 : TE := ⟨.slice 9, 1, 24, .slice none 0 0⟩
theorem u43 : (Tryz.prog.underlying 43).map tdOf = some e43.td := by kernel_rfl
theorem i43 : (Tryz.prog.info? 43).map (fun i => (i.zero, i.size, i.bytes)) = some (some e43.zero, e43.size, e43.bytes) := by kernel_rfl
abbrev e44 : TE := ⟨.struct [(3, 0), (36, 1)], 2, 32, .agg #[.int .i64 0, .slice none 0 0]⟩
theorem u44 : (Tryz.prog.underlying 44).map tdOf = some e44.td := by kernel_rfl
theorem i44 : (Tryz.prog.info? 44).map (fun i => (i.zero, i.size, i.bytes)) = some (some e44.zero, e44.size, e44.bytes) := by kernel_rfl
abbrev e45 : TE := ⟨.struct [(3, 0), (36, 1)], 2, 32, .agg #[.int .i64 0, .slice none 0 0]⟩
theorem u45 : (Tryz.prog.underlying 45).map tdOf = some e45.td := by kernel_rfl
theorem i45 : (Tryz.prog.info? 45).map (fun i => (i.zero, i.size, i.bytes)) = some (some e45.zero, e45.size, e45.bytes) := by kernel_rfl
abbrev e46 : TE := ⟨.ptr 103, 1, 8, .pointer none⟩
theorem u46 : (Tryz.prog.underlying 46).map tdOf = some e46.td := by kernel_rfl
theorem i46 : (Tryz.prog.info? 46).map (fun i => (i.zero, i.size, i.bytes)) = some (some e46.zero, e46.size, e46.bytes) := by kernel_rfl
abbrev e47 : TE := ⟨.func, 1, 8, .nilFunc⟩
theorem u47 : (Tryz.prog.underlying 47).map tdOf = some e47.td := by kernel_rfl
theorem i47 : (Tryz.prog.info? 47).map (fun i => (i.zero, i.size, i.bytes)) = some (some e47.zero, e47.size, e47.bytes) := by kernel_rfl
abbrev e48 : TE := ⟨.struct [(3, 0), (9, 1)], 2, 24, .agg #[.int .i64 0, .string ⟨#[]⟩]⟩
theorem u48 : (Tryz.prog.underlying 48).map tdOf = some e48.td := by kernel_rfl
theorem i48 : (Tryz.prog.info? 48).map (fun i => (i.zero, i.size, i.bytes)) = some (some e48.zero, e48.size, e48.bytes) := by kernel_rfl
abbrev e49 : TE := ⟨.struct [(3, 0), (9, 1)], 2, 24, .agg #[.int .i64 0, .string ⟨#[]⟩]⟩
theorem u49 : (Tryz.prog.underlying 49).map tdOf = some e49.td := by kernel_rfl
theorem i49 : (Tryz.prog.info? 49).map (fun i => (i.zero, i.size, i.bytes)) = some (some e49.zero, e49.size, e49.bytes) := by kernel_rfl
abbrev e50 : TE := ⟨.func, 1, 8, .nilFunc⟩
theorem u50 : (Tryz.prog.underlying 50).map tdOf = some e50.td := by kernel_rfl
theorem i50 : (Tryz.prog.info? 50).map (fun i => (i.zero, i.size, i.bytes)) = some (some e50.zero, e50.size, e50.bytes) := by kernel_rfl
abbrev e51 : TE := ⟨.func, 1, 8, .nilFunc⟩
theorem u51 : (Tryz.prog.underlying 51).map tdOf = some e51.td := by kernel_rfl
theorem i51 : (Tryz.prog.info? 51).map (fun i => (i.zero, i.size, i.bytes)) = some (some e51.zero, e51.size, e51.bytes) := by kernel_rfl
abbrev e52 : TE := ⟨.func, 1, 8, .nilFunc⟩
theorem u52 : (Tryz.prog.underlying 52).map tdOf = some e52.td := by kernel_rfl
theorem i52 : (Tryz.prog.info? 52).map (fun i => (i.zero, i.size, i.bytes)) = some (some e52.zero, e52.size, e52.bytes) := by kernel_rfl
abbrev e53 : TE := ⟨.slice 64, 1, 24, .slice none 0 0⟩
theorem u53 : (Tryz.prog.underlying 53).map tdOf = some e53.td := by kernel_rfl
theorem i53 : (Tryz.prog.info? 53).map (fun i => (i.zero, i.size, i.bytes)) = some (some e53.zero, e53.size, e53.bytes) := by kernel_rfl
abbrev e54 : TE := ⟨.slice 29, 1, 24, .slice none 0 0⟩
theorem u54 : (Tryz.prog.underlying 54).map tdOf = some e54.td := by kernel_rfl
theorem i54 : (Tryz.prog.info? 54).map (fun i => (i.zero, i.size, i.bytes)) = some (some e54.zero, e54.size, e54.bytes) := by kernel_rfl
abbrev e55 : TE := ⟨.slice 56, 1, 24, .slice none 0 0⟩
theorem u55 : (Tryz.prog.underlying 55).map tdOf = some e55.td := by kernel_rfl
theorem i55 : (Tryz.prog.info? 55).map (fun i => (i.zero, i.size, i.bytes)) = some (some e55.zero, e55.size, e55.bytes) := by kernel_rfl
abbrev e56 : TE := ⟨.ptr 68, 1, 8, .pointer none⟩
theorem u56 : (Tryz.prog.underlying 56).map tdOf = some e56.td := by kernel_rfl
theorem i56 : (Tryz.prog.info? 56).map (fun i => (i.zero, i.size, i.bytes)) = some (some e56.zero, e56.size, e56.bytes) := by kernel_rfl
abbrev e57 : TE := ⟨.func, 1, 8, .nilFunc⟩
theorem u57 : (Tryz.prog.underlying 57).map tdOf = some e57.td := by kernel_rfl
theorem i57 : (Tryz.prog.info? 57).map (fun i => (i.zero, i.size, i.bytes)) = some (some e57.zero, e57.size, e57.bytes) := by kernel_rfl
abbrev e58 : TE := ⟨.slice 86, 1, 24, .slice none 0 0⟩
theorem u58 : (Tryz.prog.underlying 58).map tdOf = some e58.td := by kernel_rfl
theorem i58 : (Tryz.prog.info? 58).map (fun i => (i.zero, i.size, i.bytes)) = some (some e58.zero, e58.size, e58.bytes) := by kernel_rfl
abbrev e59 : TE := ⟨.slice 88, 1, 24, .slice none 0 0⟩
theorem u59 : (Tryz.prog.underlying 59).map tdOf = some e59.td := by kernel_rfl
theorem i59 : (Tryz.prog.info? 59).map (fun i => (i.zero, i.size, i.bytes)) = some (some e59.zero, e59.size, e59.bytes) := by kernel_rfl
abbrev e60 : TE := ⟨.ptr 84, 1, 8, .pointer none⟩
theorem u60 : (Tryz.prog.underlying 60).map tdOf = some e60.td := by kernel_rfl
theorem i60 : (Tryz.prog.info? 60).map (fun i => (i.zero, i.size, i.bytes)) = some (some e60.zero, e60.size, e60.bytes) := by kernel_rfl
abbrev e61 : TE := ⟨.struct [(58, 0), (59, 1), (60, 2)], 3, 56, .agg #[.slice none 0 0, .slice none 0 0, .pointer none]⟩
theorem u61 : (Tryz.prog.underlying 61).map tdOf = some e61.td := by kernel_rfl
theorem i61 : (Tryz.prog.info? 61).map (fun i => (i.zero, i.size, i.bytes)) = some (some e61.zero, e61.size, e61.bytes) := by kernel_rfl
abbrev e62 : TE := ⟨.struct [(58, 0), (59, 1), (60, 2)], 3, 56, .agg #[.slice none 0 0, .slice none 0 0, .pointer none]⟩
theorem u62 : (Tryz.prog.underlying 62).map tdOf = some e62.td := by kernel_rfl
theorem i62 : (Tryz.prog.info? 62).map (fun i => (i.zero, i.size, i.bytes)) = some (some e62.zero, e62.size, e62.bytes) := by kernel_rfl
abbrev e63 : TE := ⟨.struct [(3, 0), (3, 1), (3, 2), (9, 3), (28, 4), (3, 5), (3, 6), (28, 7)], 8, 104, .agg #[.int .i64 0, .int .i64 0, .int .i64 0, .string ⟨#[]⟩, .slice none 0 0, .int .i64 0, .int .i64 0, .slice none 0 0]⟩
theorem u63 : (Tryz.prog.underlying 63).map tdOf = some e63.td := by kernel_rfl
theorem i63 : (Tryz.prog.info? 63).map (fun i => (i.zero, i.size, i.bytes)) = some (some e63.zero, e63.size, e63.bytes) := by kernel_rfl
abbrev e64 : TE := ⟨.struct [(3, 0), (3, 1), (3, 2), (9, 3), (28, 4), (3, 5), (3, 6), (28, 7)], 8, 104, .agg #[.int .i64 0, .int .i64 0, .int .i64 0, .string ⟨#[]⟩, .slice none 0 0, .int .i64 0, .int .i64 0, .slice none 0 0]⟩
theorem u64 : (Tryz.prog.underlying 64).map tdOf = some e64.td := by kernel_rfl
theorem i64 : (Tryz.prog.info? 64).map (fun i => (i.zero, i.size, i.bytes)) = some (some e64.zero, e64.size, e64.bytes) := by kernel_rfl
abbrev e65 : TE := ⟨.func, 1, 8, .nilFunc⟩
theorem u65 : (Tryz.prog.underlying 65).map tdOf = some e65.td := by kernel_rfl
theorem i65 : (Tryz.prog.info? 65).map (fun i => (i.zero, i.size, i.bytes)) = some (some e65.zero, e65.size, e65.bytes) := by kernel_rfl
abbrev e66 : TE := ⟨.func, 1, 8, .nilFunc⟩
theorem u66 : (Tryz.prog.underlying 66).map tdOf = some e66.td := by kernel_rfl
theorem i66 : (Tryz.prog.info? 66).map (fun i => (i.zero, i.size, i.bytes)) = some (some e66.zero, e66.size, e66.bytes) := by kernel_rfl
abbrev e67 : TE := ⟨.struct [(59, 0), (60, 1), (3, 2), (3, 3), (4, 4)], 5, 56, .agg #[.slice none 0 0, .pointer none, .int .i64 0, .int .i64 0, .bool false]⟩
theorem u67 : (Tryz.prog.underlying 67).map tdOf = some e67.td := by kernel_rfl
theorem i67 : (Tryz.prog.info? 67).map (fun i => (i.zero, i.size, i.bytes)) = some (some e67.zero, e67.size, e67.bytes) := by kernel_rfl
abbrev e68 : TE := ⟨.struct [(59, 0), (60, 1), (3, 2), (3, 3), (4, 4)], 5, 56, .agg #[.slice none 0 0, .pointer none, .int .i64 0, .int .i64 0, .bool false]⟩
theorem u68 : (Tryz.prog.underlying 68).map tdOf = some e68.td := by kernel_rfl
theorem i68 : (Tryz.prog.info? 68).map (fun i => (i.zero, i.size, i.bytes)) = some (some e68.zero, e68.size, e68.bytes) := by kernel_rfl
abbrev e69 : TE := ⟨.func, 1, 8, .nilFunc⟩
theorem u69 : (Tryz.prog.underlying 69).map tdOf = some e69.td := by kernel_rfl
theorem i69 : (Tryz.prog.info? 69).map (fun i => (i.zero, i.size, i.bytes)) = some (some e69.zero, e69.size, e69.bytes) := by kernel_rfl
abbrev e70 : TE := ⟨.func, 1, 8, .nilFunc⟩
theorem u70 : (Tryz.prog.underlying 70).map tdOf = some e70.td := by kernel_rfl
theorem i70 : (Tryz.prog.info? 70).map (fun i => (i.zero, i.size, i.bytes)) = some (some e70.zero, e70.size, e70.bytes) := by kernel_rfl
abbrev e71 : TE := ⟨.struct [(3, 0), (9, 1)], 2, 24, .agg #[.int .i64 0, .string ⟨#[]⟩]⟩
theorem u71 : (Tryz.prog.underlying 71).map tdOf = some e71.td := by kernel_rfl
theorem i71 : (Tryz.prog.info? 71).map (fun i => (i.zero, i.size, i.bytes)) = some (some e71.zero, e71.size, e71.bytes) := by kernel_rfl
abbrev e72 : TE := ⟨.struct [(3, 0), (9, 1)], 2, 24, .agg #[.int .i64 0, .string ⟨#[]⟩]⟩
theorem u72 : (Tryz.prog.underlying 72).map tdOf = some e72.td := by kernel_rfl
theorem i72 : (Tryz.prog.info? 72).map (fun i => (i.zero, i.size, i.bytes)) = some (some e72.zero, e72.size, e72.bytes) := by kernel_rfl
abbrev e74 : TE := ⟨.func, 1, 8, .nilFunc⟩
theorem u74 : (Tryz.prog.underlying 74).map tdOf = some e74.td := by kernel_rfl
theorem i74 : (Tryz.prog.info? 74).map (fun i => (i.zero, i.size, i.bytes)) = some (some e74.zero, e74.size, e74.bytes) := by kernel_rfl
abbrev e75 : TE := ⟨.func, 1, 8, .nilFunc⟩
theorem u75 : (Tryz.prog.underlying 75).map tdOf = some e75.td := by kernel_rfl
theorem i75 : (Tryz.prog.info? 75).map (fun i => (i.zero, i.size, i.bytes)) = some (some e75.zero, e75.size, e75.bytes) := by kernel_rfl
abbrev e76 : TE := ⟨.ptr 135, 1, 8, .pointer none⟩
theorem u76 : (Tryz.prog.underlying 76).map tdOf = some e76.td := by kernel_rfl
theorem i76 : (Tryz.prog.info? 76).map (fun i => (i.zero, i.size, i.bytes)) = some (some e76.zero, e76.size, e76.bytes) := by kernel_rfl
abbrev e77 : TE := ⟨.func, 1, 8, .nilFunc⟩
theorem u77 : (Tryz.prog.underlying 77).map tdOf = some e77.td := by kernel_rfl
theorem i77 : (Tryz.prog.info? 77).map (fun i => (i.zero, i.size, i.bytes)) = some (some e77.zero, e77.size, e77.bytes) := by kernel_rfl
abbrev e78 : TE := ⟨.func, 1, 8, .nilFunc⟩
theorem u78 : (Tryz.prog.underlying 78).map tdOf = some e78.td := by kernel_rfl
theorem i78 : (Tryz.prog.info? 78).map (fun i => (i.zero, i.size, i.bytes)) = some (some e78.zero, e78.size, e78.bytes) := by kernel_rfl
abbrev e80 : TE := ⟨.func, 1, 8, .nilFunc⟩
theorem u80 : (Tryz.prog.underlying 80).map tdOf = some e80.td := by kernel_rfl
theorem i80 : (Tryz.prog.info? 80).map (fun i => (i.zero, i.size, i.bytes)) = some (some e80.zero, e80.size, e80.bytes) := by kernel_rfl
abbrev e81 : TE := ⟨.func, 1, 8, .nilFunc⟩
theorem u81 : (Tryz.prog.underlying 81).map tdOf = some e81.td := by kernel_rfl
theorem i81 : (Tryz.prog.info? 81).map (fun i => (i.zero, i.size, i.bytes)) = some (some e81.zero, e81.size, e81.bytes) := by kernel_rfl
abbrev e82 : TE := ⟨.slice 72, 1, 24, .slice none 0 0⟩
theorem u82 : (Tryz.prog.underlying 82).map tdOf = some e82.td := by kernel_rfl
theorem i82 : (Tryz.prog.info? 82).map (fun i => (i.zero, i.size, i.bytes)) = some (some e82.zero, e82.size, e82.bytes) := by kernel_rfl
abbrev e83 : TE := ⟨.struct [(82, 0), (28, 1)], 2, 48, .agg #[.slice none 0 0, .slice none 0 0]⟩
theorem u83 : (Tryz.prog.underlying 83).map tdOf = some e83.td := by kernel_rfl
theorem i83 : (Tryz.prog.info? 83).map (fun i => (i.zero, i.size, i.bytes)) = some (some e83.zero, e83.size, e83.bytes) := by kernel_rfl
abbrev e84 : TE := ⟨.struct [(82, 0), (28, 1)], 2, 48, .agg #[.slice none 0 0, .slice none 0 0]⟩
theorem u84 : (Tryz.prog.underlying 84).map tdOf = some e84.td := by kernel_rfl
theorem i84 : (Tryz.prog.info? 84).map (fun i => (i.zero, i.size, i.bytes)) = some (some e84.zero, e84.size, e84.bytes) := by kernel_rfl
abbrev e85 : TE := ⟨.func, 1, 8, .nilFunc⟩
theorem u85 : (Tryz.prog.underlying 85).map tdOf = some e85.td := by kernel_rfl
theorem i85 : (Tryz.prog.info? 85).map (fun i => (i.zero, i.size, i.bytes)) = some (some e85.zero, e85.size, e85.bytes) := by kernel_rfl
abbrev e86 : TE := ⟨.ptr 149, 1, 8, .pointer none⟩
theorem u86 : (Tryz.prog.underlying 86).map tdOf = some e86.td := by kernel_rfl
theorem i86 : (Tryz.prog.info? 86).map (fun i => (i.zero, i.size, i.bytes)) = some (some e86.zero, e86.size, e86.bytes) := by kernel_rfl
abbrev e87 : TE := ⟨.func, 1, 8, .nilFunc⟩
theorem u87 : (Tryz.prog.underlying 87).map tdOf = some e87.td := by kernel_rfl
theorem i87 : (Tryz.prog.info? 87).map (fun i => (i.zero, i.size, i.bytes)) = some (some e87.zero, e87.size, e87.bytes) := by kernel_rfl
abbrev e88 : TE := ⟨.ptr 112, 1, 8, .pointer none⟩
theorem u88 : (Tryz.prog.underlying 88).map tdOf = some e88.td := by kernel_rfl
theorem i88 : (Tryz.prog.info? 88).map (fun i => (i.zero, i.size, i.bytes)) = some (some e88.zero, e88.size, e88.bytes) := by kernel_rfl
abbrev e90 : TE := ⟨.func, 1, 8, .nilFunc⟩
theorem u90 : (Tryz.prog.underlying 90).map tdOf = some e90.td := by kernel_rfl
theorem i90 : (Tryz.prog.info? 90).map (fun i => (i.zero, i.size, i.bytes)) = some (some e90.zero, e90.size, e90.bytes) := by kernel_rfl
abbrev e91 : TE := ⟨.struct [(32, 0), (33, 1), (3, 2), (3, 3), (4, 4)], 5, 56, .agg #[.slice none 0 0, .pointer none, .int .i64 0, .int .i64 0, .bool false]⟩
theorem u91 : (Tryz.prog.underlying 91).map tdOf = some e91.td := by kernel_rfl
theorem i91 : (Tryz.prog.info? 91).map (fun i => (i.zero, i.size, i.bytes)) = some (some e91.zero, e91.size, e91.bytes) := by kernel_rfl
abbrev e92 : TE := ⟨.struct [(32, 0), (33, 1), (3, 2), (3, 3), (4, 4)], 5, 56, .agg #[.slice none 0 0, .pointer none, .int .i64 0, .int .i64 0, .bool false]⟩
theorem u92 : (Tryz.prog.underlying 92).map tdOf = some e92.td := by kernel_rfl
theorem i92 : (Tryz.prog.info? 92).map (fun i => (i.zero, i.size, i.bytes)) = some (some e92.zero, e92.size, e92.bytes) := by kernel_rfl
abbrev e93 : TE := ⟨.slice 45, 1, 24, .slice none 0 0⟩
theorem u93 : (Tryz.prog.underlying 93).map tdOf = some e93.td := by kernel_rfl
theorem i93 : (Tryz.prog.info? 93).map (fun i => (i.zero, i.size, i.bytes)) = some (some e93.zero, e93.size, e93.bytes) := by kernel_rfl
abbrev e95 : TE := ⟨.func, 1, 8, .nilFunc⟩
theorem u95 : (Tryz.prog.underlying 95).map tdOf = some e95.td := by kernel_rfl
theorem i95 : (Tryz.prog.info? 95).map (fun i => (i.zero, i.size, i.bytes)) = some (some e95.zero, e95.size, e95.bytes) := by kernel_rfl
abbrev e96 : TE := ⟨.func, 1, 8, .nilFunc⟩
theorem u96 : (Tryz.prog.underlying 96).map tdOf = some e96.td := by kernel_rfl
theorem i96 : (Tryz.prog.info? 96).map (fun i => (i.zero, i.size, i.bytes)) = some (some e96.zero, e96.size, e96.bytes) := by kernel_rfl
abbrev e97 : TE := ⟨.func, 1, 8, .nilFunc⟩
theorem u97 : (Tryz.prog.underlying 97).map tdOf = some e97.td := by kernel_rfl
theorem i97 : (Tryz.prog.info? 97).map (fun i => (i.zero, i.size, i.bytes)) = some (some e97.zero, e97.size, e97.bytes) := by kernel_rfl
abbrev e99 : TE := ⟨.func, 1, 8, .nilFunc⟩
theorem u99 : (Tryz.prog.underlying 99).map tdOf = some e99.td := by kernel_rfl
theorem i99 : (Tryz.prog.info? 99).map (fun i => (i.zero, i.size, i.bytes)) = some (some e99.zero, e99.size, e99.bytes) := by kernel_rfl
abbrev e100 : TE := ⟨.func, 1, 8, .nilFunc⟩
theorem u100 : (Tryz.prog.underlying 100).map tdOf = some e100.td := by kernel_rfl
theorem i100 : (Tryz.prog.info? 100).map (fun i => (i.zero, i.size, i.bytes)) = some (some e100.zero, e100.size, e100.bytes) := by kernel_rfl
abbrev e101 : TE := ⟨.func, 1, 8, .nilFunc⟩
theorem u101 : (Tryz.prog.underlying 101).map tdOf = some e101.td := by kernel_rfl
theorem i101 : (Tryz.prog.info? 101).map (fun i => (i.zero, i.size, i.bytes)) = some (some e101.zero, e101.size, e101.bytes) := by kernel_rfl
abbrev e102 : TE := ⟨.struct [(76, 0), (3, 1), (45, 2), (4, 4)], 5, 56, .agg #[.pointer none, .int .i64 0, .int .i64 0, .slice none 0 0, .bool false]⟩
theorem u102 : (Tryz.prog.underlying 102).map tdOf = some e102.td := by kernel_rfl
theorem i102 : (Tryz.prog.info? 102).map (fun i => (i.zero, i.size, i.bytes)) = some (some e102.zero, e102.size, e102.bytes) := by kernel_rfl
abbrev e103 : TE := ⟨.struct [(76, 0), (3, 1), (45, 2), (4, 4)], 5, 56, .agg #[.pointer none, .int .i64 0, .int .i64 0, .slice none 0 0, .bool false]⟩
theorem u103 : (Tryz.prog.underlying 103).map tdOf = some e103.td := by kernel_rfl
theorem i103 : (Tryz.prog.info? 103).map (fun i => (i.zero, i.size, i.bytes)) = some (some e103.zero, e103.size, e103.bytes) := by kernel_rfl
abbrev e104 : TE := ⟨.func, 1, 8, .nilFunc⟩
theorem u104 : (Tryz.prog.underlying 104).map tdOf = some e104.td := by kernel_rfl
theorem i104 : (Tryz.prog.info? 104).map (fun i => (i.zero, i.size, i.bytes)) = some (some e104.zero, e104.size, e104.bytes) := by kernel_rfl
abbrev e105 : TE := ⟨.func, 1, 8, .nilFunc⟩
theorem u105 : (Tryz.prog.underlying 105).map tdOf = some e105.td := by kernel_rfl
theorem i105 : (Tryz.prog.info? 105).map (fun i => (i.zero, i.size, i.bytes)) = some (some e105.zero, e105.size, e105.bytes) := by kernel_rfl
abbrev e106 : TE := ⟨.func, 1, 8, .nilFunc⟩
theorem u106 : (Tryz.prog.underlying 106).map tdOf = some e106.td := by kernel_rfl
theorem i106 : (Tryz.prog.info? 106).map (fun i => (i.zero, i.size, i.bytes)) = some (some e106.zero, e106.size, e106.bytes) := by kernel_rfl
abbrev e108 : TE := ⟨.func, 1, 8, .nilFunc⟩
theorem u108 : (Tryz.prog.underlying 108).map tdOf = some e108.td := by kernel_rfl
theorem i108 : (Tryz.prog.info? 108).map (fun i => (i.zero, i.size, i.bytes)) = some (some e108.zero, e108.size, e108.bytes) := by kernel_rfl
abbrev e109 : TE := ⟨.func, 1, 8, .nilFunc⟩
theorem u109 : (Tryz.prog.underlying 109).map tdOf = some e109.td := by kernel_rfl
theorem i109 : (Tryz.prog.info? 109).map (fun i => (i.zero, i.size, i.bytes)) = some (some e109.zero, e109.size, e109.bytes) := by kernel_rfl
abbrev e110 : TE := ⟨.func, 1, 8, .nilFunc⟩
theorem u110 : (Tryz.prog.underlying 110).map tdOf = some e110.td := by kernel_rfl
theorem i110 : (Tryz.prog.info? 110).map (fun i => (i.zero, i.size, i.bytes)) = some (some e110.zero, e110.size, e110.bytes) := by kernel_rfl
abbrev e111 : TE := ⟨.struct [(86, 0), (3, 1), (45, 2), (4, 4)], 5, 56, .agg #[.pointer none, .int .i64 0, .int .i64 0, .slice none 0 0, .bool false]⟩
theorem u111 : (Tryz.prog.underlying 111).map tdOf = some e111.td := by kernel_rfl
theorem i111 : (Tryz.prog.info? 111).map (fun i => (i.zero, i.size, i.bytes)) = some (some e111.zero, e111.size, e111.bytes) := by kernel_rfl
abbrev e112 : TE := ⟨.struct [(86, 0), (3, 1), (45, 2), (4, 4)], 5, 56, .agg #[.pointer none, .int .i64 0, .int .i64 0, .slice none 0 0, .bool false]⟩
theorem u112 : (Tryz.prog.underlying 112).map tdOf = some e112.td := by kernel_rfl
theorem i112 : (Tryz.prog.info? 112).map (fun i => (i.zero, i.size, i.bytes)) = some (some e112.zero, e112.size, e112.bytes) := by kernel_rfl
abbrev e113 : TE := ⟨.func, 1, 8, .nilFunc⟩
theorem u113 : (Tryz.prog.underlying 113).map tdOf = some e113.td := by kernel_rfl
theorem i113 : (Tryz.prog.info? 113).map (fun i => (i.zero, i.size, i.bytes)) = some (some e113.zero, e113.size, e113.bytes) := by kernel_rfl
abbrev e114 : TE := ⟨.slice 179, 1, 24, .slice none 0 0⟩
theorem u114 : (Tryz.prog.underlying 114).map tdOf = some e114.td := by kernel_rfl
theorem i114 : (Tryz.prog.info? 114).map (fun i => (i.zero, i.size, i.bytes)) = some (some e114.zero, e114.size, e114.bytes) := by kernel_rfl
abbrev e115 : TE := ⟨.struct [(114, 0)], 1, 24, .agg #[.slice none 0 0]⟩
theorem u115 : (Tryz.prog.underlying 115).map tdOf = some e115.td := by kernel_rfl
theorem i115 : (Tryz.prog.info? 115).map (fun i => (i.zero, i.size, i.bytes)) = some (some e115.zero, e115.size, e115.bytes) := by kernel_rfl
abbrev e116 : TE := ⟨.struct [(114, 0)], 1, 24, .agg #[.slice none 0 0]⟩
theorem u116 : (Tryz.prog.underlying 116).map tdOf = some e116.td := by kernel_rfl
theorem i116 : (Tryz.prog.info? 116).map (fun i => (i.zero, i.size, i.bytes)) = some (some e116.zero, e116.size, e116.bytes) := by kernel_rfl
abbrev e117 : TE := ⟨.struct [(116, 0)], 1, 24, .agg #[.slice none 0 0]⟩
theorem u117 : (Tryz.prog.underlying 117).map tdOf = some e117.td := by kernel_rfl
theorem i117 : (Tryz.prog.info? 117).map (fun i => (i.zero, i.size, i.bytes)) = some (some e117.zero, e117.size, e117.bytes) := by kernel_rfl
abbrev e118 : TE := ⟨.struct [(116, 0)], 1, 24, .agg #[.slice none 0 0]⟩
theorem u118 : (Tryz.prog.underlying 118).map tdOf = some e118.td := by kernel_rfl
theorem i118 : (Tryz.prog.info? 118).map (fun i => (i.zero, i.size, i.bytes)) = some (some e118.zero, e118.size, e118.bytes) := by kernel_rfl
abbrev e119 : TE := ⟨.func, 1, 8, .nilFunc⟩
theorem u119 : (Tryz.prog.underlying 119).map tdOf = some e119.td := by kernel_rfl
theorem i119 : (Tryz.prog.info? 119).map (fun i => (i.zero, i.size, i.bytes)) = some (some e119.zero, e119.size, e119.bytes) := by kernel_rfl
abbrev e120 : TE := ⟨.func, 1, 8, .nilFunc⟩
theorem u120 : (Tryz.prog.underlying 120).map tdOf = some e120.td := by kernel_rfl
theorem i120 : (Tryz.prog.info? 120).map (fun i => (i.zero, i.size, i.bytes)) = some (some e120.zero, e120.size, e120.bytes) := by kernel_rfl
abbrev e121 : TE := ⟨.struct [(9, 0), (3, 1), (36, 2)], 3, 48, .agg #[.string ⟨#[]⟩, .int .i64 0, .slice none 0 0]⟩
theorem u121 : (Tryz.prog.underlying 121).map tdOf = some e121.td := by kernel_rfl
theorem i121 : (Tryz.prog.info? 121).map (fun i => (i.zero, i.size, i.bytes)) = some (some e121.zero, e121.size, e121.bytes) := by kernel_rfl
abbrev e122 : TE := ⟨.struct [(9, 0), (3, 1), (36, 2)], 3, 48, .agg #[.string ⟨#[]⟩, .int .i64 0, .slice none 0 0]⟩
theorem u122 : (Tryz.prog.underlying 122).map tdOf = some e122.td := by kernel_rfl
theorem i122 : (Tryz.prog.info? 122).map (fun i => (i.zero, i.size, i.bytes)) = some (some e122.zero, e122.size, e122.bytes) := by kernel_rfl
abbrev e123 : TE := ⟨.func, 1, 8, .nilFunc⟩
theorem u123 : (Tryz.prog.underlying 123).map tdOf = some e123.td := by kernel_rfl
theorem i123 : (Tryz.prog.info? 123).map (fun i => (i.zero, i.size, i.bytes)) = some (some e123.zero, e123.size, e123.bytes) := by kernel_rfl
abbrev e124 : TE := ⟨.func, 1, 8, .nilFunc⟩
theorem u124 : (Tryz.prog.underlying 124).map tdOf = some e124.td := by kernel_rfl
theorem i124 : (Tryz.prog.info? 124).map (fun i => (i.zero, i.size, i.bytes)) = some (some e124.zero, e124.size, e124.bytes) := by kernel_rfl
abbrev e125 : TE := ⟨.func, 1, 8, .nilFunc⟩
theorem u125 : (Tryz.prog.underlying 125).map tdOf = some e125.td := by kernel_rfl
theorem i125 : (Tryz.prog.info? 125).map (fun i => (i.zero, i.size, i.bytes)) = some (some e125.zero, e125.size, e125.bytes) := by kernel_rfl
abbrev e126 : TE := ⟨.func, 1, 8, .nilFunc⟩
theorem u126 : (Tryz.prog.underlying 126).map tdOf = some e126.td := by kernel_rfl
theorem i126 : (Tryz.prog.info? 126).map (fun i => (i.zero, i.size, i.bytes)) = some (some e126.zero, e126.size, e126.bytes) := by kernel_rfl
abbrev e127 : TE := ⟨.func, 1, 8, .nilFunc⟩
theorem u127 : (Tryz.prog.underlying 127).map tdOf = some e127.td := by kernel_rfl
theorem i127 : (Tryz.prog.info? 127).map (fun i => (i.zero, i.size, i.bytes)) = some (some e127.zero, e127.size, e127.bytes) := by kernel_rfl
abbrev e128 : TE := ⟨.struct [], 0, 0, .agg #[]⟩
theorem u128 : (Tryz.prog.underlying 128).map tdOf = some e128.td := by kernel_rfl
theorem i128 : (Tryz.prog.info? 128).map (fun i => (i.zero, i.size, i.bytes)) = some (some e128.zero, e128.size, e128.bytes) := by kernel_rfl
abbrev e129 : TE := ⟨.struct [], 0, 0, .agg #[]⟩
theorem u129 : (Tryz.prog.underlying 129).map tdOf = some e129.td := by kernel_rfl
theorem i129 : (Tryz.prog.info? 129).map (fun i => (i.zero, i.size, i.bytes)) = some (some e129.zero, e129.size, e129.bytes) := by kernel_rfl
abbrev e130 : TE := ⟨.func, 1, 8, .nilFunc⟩
theorem u130 : (Tryz.prog.underlying 130).map tdOf = some e130.td := by kernel_rfl
theorem i130 : (Tryz.prog.info? 130).map (fun i => (i.zero, i.size, i.bytes)) = some (some e130.zero, e130.size, e130.bytes) := by kernel_rfl
abbrev e131 : TE := ⟨.func, 1, 8, .nilFunc⟩
theorem u131 : (Tryz.prog.underlying 131).map tdOf = some e131.td := by kernel_rfl
theorem i131 : (Tryz.prog.info? 131).map (fun i => (i.zero, i.size, i.bytes)) = some (some e131.zero, e131.size, e131.bytes) := by kernel_rfl
abbrev e132 : TE := ⟨.func, 1, 8, .nilFunc⟩
theorem u132 : (Tryz.prog.underlying 132).map tdOf = some e132.td := by kernel_rfl
theorem i132 : (Tryz.prog.info? 132).map (fun i => (i.zero, i.size, i.bytes)) = some (some e132.zero, e132.size, e132.bytes) := by kernel_rfl
abbrev e133 : TE := ⟨.map 9 138, 1, 8, .map none⟩
theorem u133 : (Tryz.prog.underlying 133).map tdOf = some e133.td := by kernel_rfl
theorem i133 : (Tryz.prog.info? 133).map (fun i => (i.zero, i.size, i.bytes)) = some (some e133.zero, e133.size, e133.bytes) := by kernel_rfl
abbrev e134 : TE := ⟨.struct [(133, 0), (3, 1), (3, 2), (3, 3), (4, 4)], 5, 40, .agg #[.map none, .int .i64 0, .int .i64 0, .int .i64 0, .bool false]⟩
theorem u134 : (Tryz.prog.underlying 134).map tdOf = some e134.td := by kernel_rfl
theorem i134 : (Tryz.prog.info? 134).map (fun i => (i.zero, i.size, i.bytes)) = some (some e134.zero, e134.size, e134.bytes) := by kernel_rfl
abbrev e135 : TE := ⟨.struct [(133, 0), (3, 1), (3, 2), (3, 3), (4, 4)], 5, 40, .agg #[.map none, .int .i64 0, .int .i64 0, .int .i64 0, .bool false]⟩
theorem u135 : (Tryz.prog.underlying 135).map tdOf = some e135.td := by kernel_rfl
theorem i135 : (Tryz.prog.info? 135).map (fun i => (i.zero, i.size, i.bytes)) = some (some e135.zero, e135.size, e135.bytes) := by kernel_rfl
abbrev e136 : TE := ⟨.func, 1, 8, .nilFunc⟩
theorem u136 : (Tryz.prog.underlying 136).map tdOf = some e136.td := by kernel_rfl
theorem i136 : (Tryz.prog.info? 136).map (fun i => (i.zero, i.size, i.bytes)) = some (some e136.zero, e136.size, e136.bytes) := by kernel_rfl
abbrev e137 : TE := ⟨.struct [(9, 0), (3, 1)], 2, 24, .agg #[.string ⟨#[]⟩, .int .i64 0]⟩
theorem u137 : (Tryz.prog.underlying 137).map tdOf = some e137.td := by kernel_rfl
theorem i137 : (Tryz.prog.info? 137).map (fun i => (i.zero, i.size, i.bytes)) = some (some e137.zero, e137.size, e137.bytes) := by kernel_rfl
abbrev e138 : TE := ⟨.struct [(9, 0), (3, 1)], 2, 24, .agg #[.string ⟨#[]⟩, .int .i64 0]⟩
theorem u138 : (Tryz.prog.underlying 138).map tdOf = some e138.td := by kernel_rfl
theorem i138 : (Tryz.prog.info? 138).map (fun i => (i.zero, i.size, i.bytes)) = some (some e138.zero, e138.size, e138.bytes) := by kernel_rfl
abbrev e139 : TE := ⟨.func, 1, 8, .nilFunc⟩
theorem u139 : (Tryz.prog.underlying 139).map tdOf = some e139.td := by kernel_rfl
theorem i139 : (Tryz.prog.info? 139).map (fun i => (i.zero, i.size, i.bytes)) = some (some e139.zero, e139.size, e139.bytes) := by kernel_rfl
abbrev e141 : TE := ⟨.func, 1, 8, .nilFunc⟩
theorem u141 : (Tryz.prog.underlying 141).map tdOf = some e141.td := by kernel_rfl
theorem i141 : (Tryz.prog.info? 141).map (fun i => (i.zero, i.size, i.bytes)) = some (some e141.zero, e141.size, e141.bytes) := by kernel_rfl
abbrev e143 : TE := ⟨.func, 1, 8, .nilFunc⟩
theorem u143 : (Tryz.prog.underlying 143).map tdOf = some e143.td := by kernel_rfl
theorem i143 : (Tryz.prog.info? 143).map (fun i => (i.zero, i.size, i.bytes)) = some (some e143.zero, e143.size, e143.bytes) := by kernel_rfl
abbrev e145 : TE := ⟨.func, 1, 8, .nilFunc⟩
theorem u145 : (Tryz.prog.underlying 145).map tdOf = some e145.td := by kernel_rfl
theorem i145 : (Tryz.prog.info? 145).map (fun i => (i.zero, i.size, i.bytes)) = some (some e145.zero, e145.size, e145.bytes) := by kernel_rfl
abbrev e146 : TE := ⟨.func, 1, 8, .nilFunc⟩
theorem u146 : (Tryz.prog.underlying 146).map tdOf = some e146.td := by kernel_rfl
theorem i146 : (Tryz.prog.info? 146).map (fun i => (i.zero, i.size, i.bytes)) = some (some e146.zero, e146.size, e146.bytes) := by kernel_rfl
abbrev e147 : TE := ⟨.slice 176, 1, 24, .slice none 0 0⟩
theorem u147 : (Tryz.prog.underlying 147).map tdOf = some e147.td := by kernel_rfl
theorem i147 : (Tryz.prog.info? 147).map (fun i => (i.zero, i.size, i.bytes)) = some (some e147.zero, e147.size, e147.bytes) := by kernel_rfl
abbrev e148 : TE := ⟨.struct [(3, 0), (147, 1), (3, 2), (4, 3)], 4, 48, .agg #[.int .i64 0, .slice none 0 0, .int .i64 0, .bool false]⟩
theorem u148 : (Tryz.prog.underlying 148).map tdOf = some e148.td := by kernel_rfl
theorem i148 : (Tryz.prog.info? 148).map (fun i => (i.zero, i.size, i.bytes)) = some (some e148.zero, e148.size, e148.bytes) := by kernel_rfl
abbrev e149 : TE := ⟨.struct [(3, 0), (147, 1), (3, 2), (4, 3)], 4, 48, .agg #[.int .i64 0, .slice none 0 0, .int .i64 0, .bool false]⟩
theorem u149 : (Tryz.prog.underlying 149).map tdOf = some e149.td := by kernel_rfl
theorem i149 : (Tryz.prog.info? 149).map (fun i => (i.zero, i.size, i.bytes)) = some (some e149.zero, e149.size, e149.bytes) := by kernel_rfl
abbrev e151 : TE := ⟨.func, 1, 8, .nilFunc⟩
theorem u151 : (Tryz.prog.underlying 151).map tdOf = some e151.td := by kernel_rfl
theorem i151 : (Tryz.prog.info? 151).map (fun i => (i.zero, i.size, i.bytes)) = some (some e151.zero, e151.size, e151.bytes) := by kernel_rfl
abbrev e153 : TE := ⟨.func, 1, 8, .nilFunc⟩
theorem u153 : (Tryz.prog.underlying 153).map tdOf = some e153.td := by kernel_rfl
theorem i153 : (Tryz.prog.info? 153).map (fun i => (i.zero, i.size, i.bytes)) = some (some e153.zero, e153.size, e153.bytes) := by kernel_rfl
abbrev e155 : TE := ⟨.func, 1, 8, .nilFunc⟩
theorem u155 : (Tryz.prog.underlying 155).map tdOf = some e155.td := by kernel_rfl
theorem i155 : (Tryz.prog.info? 155).map (fun i => (i.zero, i.size, i.bytes)) = some (some e155.zero, e155.size, e155.bytes) := by kernel_rfl
abbrev e157 : TE := ⟨.func, 1, 8, .nilFunc⟩
theorem u157 : (Tryz.prog.underlying 157).map tdOf = some e157.td := by kernel_rfl
theorem i157 : (Tryz.prog.info? 157).map (fun i => (i.zero, i.size, i.bytes)) = some (some e157.zero, e157.size, e157.bytes) := by kernel_rfl
abbrev e158 : TE := ⟨.func, 1, 8, .nilFunc⟩
theorem u158 : (Tryz.prog.underlying 158).map tdOf = some e158.td := by kernel_rfl
theorem i158 : (Tryz.prog.info? 158).map (fun i => (i.zero, i.size, i.bytes)) = some (some e158.zero, e158.size, e158.bytes) := by kernel_rfl
abbrev e159 : TE := ⟨.func, 1, 8, .nilFunc⟩
theorem u159 : (Tryz.prog.underlying 159).map tdOf = some e159.td := by kernel_rfl
theorem i159 : (Tryz.prog.info? 159).map (fun i => (i.zero, i.size, i.bytes)) = some (some e159.zero, e159.size, e159.bytes) := by kernel_rfl
abbrev e160 : TE := ⟨.func, 1, 8, .nilFunc⟩
theorem u160 : (Tryz.prog.underlying 160).map tdOf = some e160.td := by kernel_rfl
theorem i160 : (Tryz.prog.info? 160).map (fun i => (i.zero, i.size, i.bytes)) = some (some e160.zero, e160.size, e160.bytes) := by kernel_rfl
abbrev e161 : TE := ⟨.func, 1, 8, .nilFunc⟩
theorem u161 : (Tryz.prog.underlying 161).map tdOf = some e161.td := by kernel_rfl
theorem i161 : (Tryz.prog.info? 161).map (fun i => (i.zero, i.size, i.bytes)) = some (some e161.zero, e161.size, e161.bytes) := by kernel_rfl
abbrev e162 : TE := ⟨.map 3 28, 1, 8, .map none⟩
theorem u162 : (Tryz.prog.underlying 162).map tdOf = some e162.td := by kernel_rfl
theorem i162 : (Tryz.prog.info? 162).map (fun i => (i.zero, i.size, i.bytes)) = some (some e162.zero, e162.size, e162.bytes) := by kernel_rfl
abbrev e163 : TE := ⟨.func, 1, 8, .nilFunc⟩
theorem u163 : (Tryz.prog.underlying 163).map tdOf = some e163.td := by kernel_rfl
theorem i163 : (Tryz.prog.info? 163).map (fun i => (i.zero, i.size, i.bytes)) = some (some e163.zero, e163.size, e163.bytes) := by kernel_rfl
abbrev e165 : TE := ⟨.func, 1, 8, .nilFunc⟩
theorem u165 : (Tryz.prog.underlying 165).map tdOf = some e165.td := by kernel_rfl
theorem i165 : (Tryz.prog.info? 165).map (fun i => (i.zero, i.size, i.bytes)) = some (some e165.zero, e165.size, e165.bytes) := by kernel_rfl
abbrev e166 : TE := ⟨.func, 1, 8, .nilFunc⟩
theorem u166 : (Tryz.prog.underlying 166).map tdOf = some e166.td := by kernel_rfl
theorem i166 : (Tryz.prog.info? 166).map (fun i => (i.zero, i.size, i.bytes)) = some (some e166.zero, e166.size, e166.bytes) := by kernel_rfl
abbrev e168 : TE := ⟨.func, 1, 8, .nilFunc⟩
theorem u168 : (Tryz.prog.underlying 168).map tdOf = some e168.td := by kernel_rfl
theorem i168 : (Tryz.prog.info? 168).map (fun i => (i.zero, i.size, i.bytes)) = some (some e168.zero, e168.size, e168.bytes) := by kernel_rfl
abbrev e169 : TE := ⟨.func, 1, 8, .nilFunc⟩
theorem u169 : (Tryz.prog.underlying 169).map tdOf = some e169.td := by kernel_rfl
theorem i169 : (Tryz.prog.info? 169).map (fun i => (i.zero, i.size, i.bytes)) = some (some e169.zero, e169.size, e169.bytes) := by kernel_rfl
abbrev e170 : TE := ⟨.struct [(9, 0), (3, 1), (3, 2), (36, 3)], 4, 56, .agg #[.string ⟨#[]⟩, .int .i64 0, .int .i64 0, .slice none 0 0]⟩
theorem u170 : (Tryz.prog.underlying 170).map tdOf = some e170.td := by kernel_rfl
theorem i170 : (Tryz.prog.info? 170).map (fun i => (i.zero, i.size, i.bytes)) = some (some e170.zero, e170.size, e170.bytes) := by kernel_rfl
abbrev e171 : TE := ⟨.struct [(9, 0), (3, 1), (3, 2), (36, 3)], 4, 56, .agg #[.string ⟨#[]⟩, .int .i64 0, .int .i64 0, .slice none 0 0]⟩
theorem u171 : (Tryz.prog.underlying 171).map tdOf = some e171.td := by kernel_rfl
theorem i171 : (Tryz.prog.info? 171).map (fun i => (i.zero, i.size, i.bytes)) = some (some e171.zero, e171.size, e171.bytes) := by kernel_rfl
abbrev e173 : TE := ⟨.func, 1, 8, .nilFunc⟩
theorem u173 : (Tryz.prog.underlying 173).map tdOf = some e173.td := by kernel_rfl
theorem i173 : (Tryz.prog.info? 173).map (fun i => (i.zero, i.size, i.bytes)) = some (some e173.zero, e173.size, e173.bytes) := by kernel_rfl
abbrev e174 : TE := ⟨.func, 1, 8, .nilFunc⟩
theorem u174 : (Tryz.prog.underlying 174).map tdOf = some e174.td := by kernel_rfl
theorem i174 : (Tryz.prog.info? 174).map (fun i => (i.zero, i.size, i.bytes)) = some (some e174.zero, e174.size, e174.bytes) := by kernel_rfl
abbrev e175 : TE := ⟨.struct [(9, 0), (9, 1), (3, 2)], 3, 40, .agg #[.string ⟨#[]⟩, .string ⟨#[]⟩, .int .i64 0]⟩
theorem u175 : (Tryz.prog.underlying 175).map tdOf = some e175.td := by kernel_rfl
theorem i175 : (Tryz.prog.info? 175).map (fun i => (i.zero, i.size, i.bytes)) = some (some e175.zero, e175.size, e175.bytes) := by kernel_rfl
abbrev e176 : TE := ⟨.struct [(9, 0), (9, 1), (3, 2)], 3, 40, .agg #[.string ⟨#[]⟩, .string ⟨#[]⟩, .int .i64 0]⟩
theorem u176 : (Tryz.prog.underlying 176).map tdOf = some e176.td := by kernel_rfl
theorem i176 : (Tryz.prog.info? 176).map (fun i => (i.zero, i.size, i.bytes)) = some (some e176.zero, e176.size, e176.bytes) := by kernel_rfl
abbrev e177 : TE := ⟨.ptr 116, 1, 8, .pointer none⟩
theorem u177 : (Tryz.prog.underlying 177).map tdOf = some e177.td := by kernel_rfl
theorem i177 : (Tryz.prog.info? 177).map (fun i => (i.zero, i.size, i.bytes)) = some (some e177.zero, e177.size, e177.bytes) := by kernel_rfl
abbrev e178 : TE := ⟨.struct [(72, 0), (3, 2)], 3, 32, .agg #[.int .i64 0, .string ⟨#[]⟩, .int .i64 0]⟩
theorem u178 : (Tryz.prog.underlying 178).map tdOf = some e178.td := by kernel_rfl
theorem i178 : (Tryz.prog.info? 178).map (fun i => (i.zero, i.size, i.bytes)) = some (some e178.zero, e178.size, e178.bytes) := by kernel_rfl
abbrev e179 : TE := ⟨.struct [(72, 0), (3, 2)], 3, 32, .agg #[.int .i64 0, .string ⟨#[]⟩, .int .i64 0]⟩
theorem u179 : (Tryz.prog.underlying 179).map tdOf = some e179.td := by kernel_rfl
theorem i179 : (Tryz.prog.info? 179).map (fun i => (i.zero, i.size, i.bytes)) = some (some e179.zero, e179.size, e179.bytes) := by kernel_rfl
abbrev e180 : TE := ⟨.func, 1, 8, .nilFunc⟩
theorem u180 : (Tryz.prog.underlying 180).map tdOf = some e180.td := by kernel_rfl
theorem i180 : (Tryz.prog.info? 180).map (fun i => (i.zero, i.size, i.bytes)) = some (some e180.zero, e180.size, e180.bytes) := by kernel_rfl
abbrev e183 : TE := ⟨.func, 1, 8, .nilFunc⟩
theorem u183 : (Tryz.prog.underlying 183).map tdOf = some e183.td := by kernel_rfl
theorem i183 : (Tryz.prog.info? 183).map (fun i => (i.zero, i.size, i.bytes)) = some (some e183.zero, e183.size, e183.bytes) := by kernel_rfl
abbrev e184 : TE := ⟨.func, 1, 8, .nilFunc⟩
theorem u184 : (Tryz.prog.underlying 184).map tdOf = some e184.td := by kernel_rfl
theorem i184 : (Tryz.prog.info? 184).map (fun i => (i.zero, i.size, i.bytes)) = some (some e184.zero, e184.size, e184.bytes) := by kernel_rfl
abbrev e185 : TE := ⟨.func, 1, 8, .nilFunc⟩
theorem u185 : (Tryz.prog.underlying 185).map tdOf = some e185.td := by kernel_rfl
theorem i185 : (Tryz.prog.info? 185).map (fun i => (i.zero, i.size, i.bytes)) = some (some e185.zero, e185.size, e185.bytes) := by kernel_rfl
abbrev e186 : TE := ⟨.func, 1, 8, .nilFunc⟩
theorem u186 : (Tryz.prog.underlying 186).map tdOf = some e186.td := by kernel_rfl
theorem i186 : (Tryz.prog.info? 186).map (fun i => (i.zero, i.size, i.bytes)) = some (some e186.zero, e186.size, e186.bytes) := by kernel_rfl
abbrev e187 : TE := ⟨.func, 1, 8, .nilFunc⟩
theorem u187 : (Tryz.prog.underlying 187).map tdOf = some e187.td := by kernel_rfl
theorem i187 : (Tryz.prog.info? 187).map (fun i => (i.zero, i.size, i.bytes)) = some (some e187.zero, e187.size, e187.bytes) := by kernel_rfl
abbrev e188 : TE := ⟨.func, 1, 8, .nilFunc⟩
theorem u188 : (Tryz.prog.underlying 188).map tdOf = some e188.td := by kernel_rfl
theorem i188 : (Tryz.prog.info? 188).map (fun i => (i.zero, i.size, i.bytes)) = some (some e188.zero, e188.size, e188.bytes) := by kernel_rfl
abbrev e189 : TE := ⟨.func, 1, 8, .nilFunc⟩
theorem u189 : (Tryz.prog.underlying 189).map tdOf = some e189.td := by kernel_rfl
theorem i189 : (Tryz.prog.info? 189).map (fun i => (i.zero, i.size, i.bytes)) = some (some e189.zero, e189.size, e189.bytes) := by kernel_rfl
abbrev e190 : TE := ⟨.func, 1, 8, .nilFunc⟩
theorem u190 : (Tryz.prog.underlying 190).map tdOf = some e190.td := by kernel_rfl
theorem i190 : (Tryz.prog.info? 190).map (fun i => (i.zero, i.size, i.bytes)) = some (some e190.zero, e190.size, e190.bytes) := by kernel_rfl
abbrev e191 : TE := ⟨.func, 1, 8, .nilFunc⟩
theorem u191 : (Tryz.prog.underlying 191).map tdOf = some e191.td := by kernel_rfl
theorem i191 : (Tryz.prog.info? 191).map (fun i => (i.zero, i.size, i.bytes)) = some (some e191.zero, e191.size, e191.bytes) := by kernel_rfl
abbrev e193 : TE := ⟨.func, 1, 8, .nilFunc⟩
theorem u193 : (Tryz.prog.underlying 193).map tdOf = some e193.td := by kernel_rfl
theorem i193 : (Tryz.prog.info? 193).map (fun i => (i.zero, i.size, i.bytes)) = some (some e193.zero, e193.size, e193.bytes) := by kernel_rfl
abbrev e194 : TE := ⟨.int .u32, 1, 4, .int .u32 0⟩
theorem u194 : (Tryz.prog.underlying 194).map tdOf = some e194.td := by kernel_rfl
theorem i194 : (Tryz.prog.info? 194).map (fun i => (i.zero, i.size, i.bytes)) = some (some e194.zero, e194.size, e194.bytes) := by kernel_rfl
abbrev e195 : TE := ⟨.func, 1, 8, .nilFunc⟩
theorem u195 : (Tryz.prog.underlying 195).map tdOf = some e195.td := by kernel_rfl
theorem i195 : (Tryz.prog.info? 195).map (fun i => (i.zero, i.size, i.bytes)) = some (some e195.zero, e195.size, e195.bytes) := by kernel_rfl
abbrev e196 : TE := ⟨.int .u64, 1, 8, .int .u64 0⟩
theorem u196 : (Tryz.prog.underlying 196).map tdOf = some e196.td := by kernel_rfl
theorem i196 : (Tryz.prog.info? 196).map (fun i => (i.zero, i.size, i.bytes)) = some (some e196.zero, e196.size, e196.bytes) := by kernel_rfl
abbrev e197 : TE := ⟨.int .u64, 1, 8, .int .u64 0⟩
theorem u197 : (Tryz.prog.underlying 197).map tdOf = some e197.td := by kernel_rfl
theorem i197 : (Tryz.prog.info? 197).map (fun i => (i.zero, i.size, i.bytes)) = some (some e197.zero, e197.size, e197.bytes) := by kernel_rfl
abbrev e198 : TE := ⟨.func, 1, 8, .nilFunc⟩
theorem u198 : (Tryz.prog.underlying 198).map tdOf = some e198.td := by kernel_rfl
theorem i198 : (Tryz.prog.info? 198).map (fun i => (i.zero, i.size, i.bytes)) = some (some e198.zero, e198.size, e198.bytes) := by kernel_rfl
abbrev e200 : TE := ⟨.func, 1, 8, .nilFunc⟩
theorem u200 : (Tryz.prog.underlying 200).map tdOf = some e200.td := by kernel_rfl
theorem i200 : (Tryz.prog.info? 200).map (fun i => (i.zero, i.size, i.bytes)) = some (some e200.zero, e200.size, e200.bytes) := by kernel_rfl
abbrev e201 : TE := ⟨.struct [], 0, 0, .agg #[]⟩
theorem u201 : (Tryz.prog.underlying 201).map tdOf = some e201.td := by kernel_rfl
theorem i201 : (Tryz.prog.info? 201).map (fun i => (i.zero, i.size, i.bytes)) = some (some e201.zero, e201.size, e201.bytes) := by kernel_rfl
abbrev e202 : TE := ⟨.func, 1, 8, .nilFunc⟩
theorem u202 : (Tryz.prog.underlying 202).map tdOf = some e202.td := by kernel_rfl
theorem i202 : (Tryz.prog.info? 202).map (fun i => (i.zero, i.size, i.bytes)) = some (some e202.zero, e202.size, e202.bytes) := by kernel_rfl
abbrev e204 : TE := ⟨.func, 1, 8, .nilFunc⟩
theorem u204 : (Tryz.prog.underlying 204).map tdOf = some e204.td := by kernel_rfl
theorem i204 : (Tryz.prog.info? 204).map (fun i => (i.zero, i.size, i.bytes)) = some (some e204.zero, e204.size, e204.bytes) := by kernel_rfl
abbrev e206 : TE := ⟨.func, 1, 8, .nilFunc⟩
theorem u206 : (Tryz.prog.underlying 206).map tdOf = some e206.td := by kernel_rfl
theorem i206 : (Tryz.prog.info? 206).map (fun i => (i.zero, i.size, i.bytes)) = some (some e206.zero, e206.size, e206.bytes) := by kernel_rfl
abbrev e208 : TE := ⟨.func, 1, 8, .nilFunc⟩
theorem u208 : (Tryz.prog.underlying 208).map tdOf = some e208.td := by kernel_rfl
theorem i208 : (Tryz.prog.info? 208).map (fun i => (i.zero, i.size, i.bytes)) = some (some e208.zero, e208.size, e208.bytes) := by kernel_rfl
abbrev e209 : TE := ⟨.func, 1, 8, .nilFunc⟩
theorem u209 : (Tryz.prog.underlying 209).map tdOf = some e209.td := by kernel_rfl
theorem i209 : (Tryz.prog.info? 209).map (fun i => (i.zero, i.size, i.bytes)) = some (some e209.zero, e209.size, e209.bytes) := by kernel_rfl
abbrev e210 : TE := ⟨.func, 1, 8, .nilFunc⟩
theorem u210 : (Tryz.prog.underlying 210).map tdOf = some e210.td := by kernel_rfl
theorem i210 : (Tryz.prog.info? 210).map (fun i => (i.zero, i.size, i.bytes)) = some (some e210.zero, e210.size, e210.bytes) := by kernel_rfl
abbrev e211 : TE := ⟨.func, 1, 8, .nilFunc⟩
theorem u211 : (Tryz.prog.underlying 211).map tdOf = some e211.td := by kernel_rfl
theorem i211 : (Tryz.prog.info? 211).map (fun i => (i.zero, i.size, i.bytes)) = some (some e211.zero, e211.size, e211.bytes) := by kernel_rfl
abbrev e213 : TE := ⟨.func, 1, 8, .nilFunc⟩
theorem u213 : (Tryz.prog.underlying 213).map tdOf = some e213.td := by kernel_rfl
theorem i213 : (Tryz.prog.info? 213).map (fun i => (i.zero, i.size, i.bytes)) = some (some e213.zero, e213.size, e213.bytes) := by kernel_rfl
abbrev e214 : TE := ⟨.func, 1, 8, .nilFunc⟩
theorem u214 : (Tryz.prog.underlying 214).map tdOf = some e214.td := by kernel_rfl
theorem i214 : (Tryz.prog.info? 214).map (fun i => (i.zero, i.size, i.bytes)) = some (some e214.zero, e214.size, e214.bytes) := by kernel_rfl
abbrev e215 : TE := ⟨.slice 5, 1, 24, .slice none 0 0⟩
theorem u215 : (Tryz.prog.underlying 215).map tdOf = some e215.td := by kernel_rfl
theorem i215 : (Tryz.prog.info? 215).map (fun i => (i.zero, i.size, i.bytes)) = some (some e215.zero, e215.size, e215.bytes) := by kernel_rfl
abbrev e216 : TE := ⟨.func, 1, 8, .nilFunc⟩
theorem u216 : (Tryz.prog.underlying 216).map tdOf = some e216.td := by kernel_rfl
theorem i216 : (Tryz.prog.info? 216).map (fun i => (i.zero, i.size, i.bytes)) = some (some e216.zero, e216.size, e216.bytes) := by kernel_rfl
abbrev e217 : TE := ⟨.func, 1, 8, .nilFunc⟩
theorem u217 : (Tryz.prog.underlying 217).map tdOf = some e217.td := by kernel_rfl
theorem i217 : (Tryz.prog.info? 217).map (fun i => (i.zero, i.size, i.bytes)) = some (some e217.zero, e217.size, e217.bytes) := by kernel_rfl
abbrev e218 : TE := ⟨.func, 1, 8, .nilFunc⟩
theorem u218 : (Tryz.prog.underlying 218).map tdOf = some e218.td := by kernel_rfl
theorem i218 : (Tryz.prog.info? 218).map (fun i => (i.zero, i.size, i.bytes)) = some (some e218.zero, e218.size, e218.bytes) := by kernel_rfl
abbrev e220 : TE := ⟨.func, 1, 8, .nilFunc⟩
theorem u220 : (Tryz.prog.underlying 220).map tdOf = some e220.td := by kernel_rfl
theorem i220 : (Tryz.prog.info? 220).map (fun i => (i.zero, i.size, i.bytes)) = some (some e220.zero, e220.size, e220.bytes) := by kernel_rfl
abbrev e221 : TE := ⟨.func, 1, 8, .nilFunc⟩
theorem u221 : (Tryz.prog.underlying 221).map tdOf = some e221.td := by kernel_rfl
theorem i221 : (Tryz.prog.info? 221).map (fun i => (i.zero, i.size, i.bytes)) = some (some e221.zero, e221.size, e221.bytes) := by kernel_rfl
abbrev e222 : TE := ⟨.func, 1, 8, .nilFunc⟩
theorem u222 : (Tryz.prog.underlying 222).map tdOf = some e222.td := by kernel_rfl
theorem i222 : (Tryz.prog.info? 222).map (fun i => (i.zero, i.size, i.bytes)) = some (some e222.zero, e222.size, e222.bytes) := by kernel_rfl
abbrev e224 : TE := ⟨.func, 1, 8, .nilFunc⟩
theorem u224 : (Tryz.prog.underlying 224).map tdOf = some e224.td := by kernel_rfl
theorem i224 : (Tryz.prog.info? 224).map (fun i => (i.zero, i.size, i.bytes)) = some (some e224.zero, e224.size, e224.bytes) := by kernel_rfl
abbrev e225 : TE := ⟨.func, 1, 8, .nilFunc⟩
theorem u225 : (Tryz.prog.underlying 225).map tdOf = some e225.td := by kernel_rfl
theorem i225 : (Tryz.prog.info? 225).map (fun i => (i.zero, i.size, i.bytes)) = some (some e225.zero, e225.size, e225.bytes) := by kernel_rfl
abbrev e226 : TE := ⟨.func, 1, 8, .nilFunc⟩
theorem u226 : (Tryz.prog.underlying 226).map tdOf = some e226.td := by kernel_rfl
theorem i226 : (Tryz.prog.info? 226).map (fun i => (i.zero, i.size, i.bytes)) = some (some e226.zero, e226.size, e226.bytes) := by kernel_rfl
abbrev e227 : TE := ⟨.func, 1, 8, .nilFunc⟩
theorem u227 : (Tryz.prog.underlying 227).map tdOf = some e227.td := by kernel_rfl
theorem i227 : (Tryz.prog.info? 227).map (fun i => (i.zero, i.size, i.bytes)) = some (some e227.zero, e227.size, e227.bytes) := by kernel_rfl
abbrev e228 : TE := ⟨.ptr 230, 1, 8, .pointer none⟩
theorem u228 : (Tryz.prog.underlying 228).map tdOf = some e228.td := by kernel_rfl
theorem i228 : (Tryz.prog.info? 228).map (fun i => (i.zero, i.size, i.bytes)) = some (some e228.zero, e228.size, e228.bytes) := by kernel_rfl
abbrev e229 : TE := ⟨.struct [(228, 0), (215, 1)], 2, 32, .agg #[.pointer none, .slice none 0 0]⟩
theorem u229 : (Tryz.prog.underlying 229).map tdOf = some e229.td := by kernel_rfl
theorem i229 : (Tryz.prog.info? 229).map (fun i => (i.zero, i.size, i.bytes)) = some (some e229.zero, e229.size, e229.bytes) := by kernel_rfl
abbrev e230 : TE := ⟨.struct [(228, 0), (215, 1)], 2, 32, .agg #[.pointer none, .slice none 0 0]⟩
theorem u230 : (Tryz.prog.underlying 230).map tdOf = some e230.td := by kernel_rfl
theorem i230 : (Tryz.prog.info? 230).map (fun i => (i.zero, i.size, i.bytes)) = some (some e230.zero, e230.size, e230.bytes) := by kernel_rfl
abbrev e231 : TE := ⟨.iface, 1, 16, .nilIface⟩
theorem u231 : (Tryz.prog.underlying 231).map tdOf = some e231.td := by kernel_rfl
theorem i231 : (Tryz.prog.info? 231).map (fun i => (i.zero, i.size, i.bytes)) = some (some e231.zero, e231.size, e231.bytes) := by kernel_rfl
abbrev e232 : TE := ⟨.iface, 1, 16, .nilIface⟩
theorem u232 : (Tryz.prog.underlying 232).map tdOf = some e232.td := by kernel_rfl
theorem i232 : (Tryz.prog.info? 232).map (fun i => (i.zero, i.size, i.bytes)) = some (some e232.zero, e232.size, e232.bytes) := by kernel_rfl
abbrev e234 : TE := ⟨.func, 1, 8, .nilFunc⟩
theorem u234 : (Tryz.prog.underlying 234).map tdOf = some e234.td := by kernel_rfl
theorem i234 : (Tryz.prog.info? 234).map (fun i => (i.zero, i.size, i.bytes)) = some (some e234.zero, e234.size, e234.bytes) := by kernel_rfl
abbrev e235 : TE := ⟨.func, 1, 8, .nilFunc⟩
theorem u235 : (Tryz.prog.underlying 235).map tdOf = some e235.td := by kernel_rfl
theorem i235 : (Tryz.prog.info? 235).map (fun i => (i.zero, i.size, i.bytes)) = some (some e235.zero, e235.size, e235.bytes) := by kernel_rfl
abbrev e236 : TE := ⟨.func, 1, 8, .nilFunc⟩
theorem u236 : (Tryz.prog.underlying 236).map tdOf = some e236.td := by kernel_rfl
theorem i236 : (Tryz.prog.info? 236).map (fun i => (i.zero, i.size, i.bytes)) = some (some e236.zero, e236.size, e236.bytes) := by kernel_rfl
abbrev e237 : TE := ⟨.func, 1, 8, .nilFunc⟩
theorem u237 : (Tryz.prog.underlying 237).map tdOf = some e237.td := by kernel_rfl
theorem i237 : (Tryz.prog.info? 237).map (fun i => (i.zero, i.size, i.bytes)) = some (some e237.zero, e237.size, e237.bytes) := by kernel_rfl
abbrev e238 : TE := ⟨.arr 4 5, 4, 4, .agg #[.int .u8 0, .int .u8 0, .int .u8 0, .int .u8 0]⟩
theorem u238 : (Tryz.prog.underlying 238).map tdOf = some e238.td := by kernel_rfl
theorem i238 : (Tryz.prog.info? 238).map (fun i => (i.zero, i.size, i.bytes)) = some (some e238.zero, e238.size, e238.bytes) := by kernel_rfl
abbrev e240 : TE := ⟨.func, 1, 8, .nilFunc⟩
theorem u240 : (Tryz.prog.underlying 240).map tdOf = some e240.td := by kernel_rfl
theorem i240 : (Tryz.prog.info? 240).map (fun i => (i.zero, i.size, i.bytes)) = some (some e240.zero, e240.size, e240.bytes) := by kernel_rfl
abbrev e241 : TE := ⟨.func, 1, 8, .nilFunc⟩
theorem u241 : (Tryz.prog.underlying 241).map tdOf = some e241.td := by kernel_rfl
theorem i241 : (Tryz.prog.info? 241).map (fun i => (i.zero, i.size, i.bytes)) = some (some e241.zero, e241.size, e241.bytes) := by kernel_rfl
abbrev e242 : TE := ⟨.slice 241, 1, 24, .slice none 0 0⟩
theorem u242 : (Tryz.prog.underlying 242).map tdOf = some e242.td := by kernel_rfl
theorem i242 : (Tryz.prog.info? 242).map (fun i => (i.zero, i.size, i.bytes)) = some (some e242.zero, e242.size, e242.bytes) := by kernel_rfl
abbrev e243 : TE := ⟨.func, 1, 8, .nilFunc⟩
theorem u243 : (Tryz.prog.underlying 243).map tdOf = some e243.td := by kernel_rfl
theorem i243 : (Tryz.prog.info? 243).map (fun i => (i.zero, i.size, i.bytes)) = some (some e243.zero, e243.size, e243.bytes) := by kernel_rfl
abbrev e244 : TE := ⟨.func, 1, 8, .nilFunc⟩
theorem u244 : (Tryz.prog.underlying 244).map tdOf = some e244.td := by kernel_rfl
theorem i244 : (Tryz.prog.info? 244).map (fun i => (i.zero, i.size, i.bytes)) = some (some e244.zero, e244.size, e244.bytes) := by kernel_rfl
abbrev e245 : TE := ⟨.func, 1, 8, .nilFunc⟩
theorem u245 : (Tryz.prog.underlying 245).map tdOf = some e245.td := by kernel_rfl
theorem i245 : (Tryz.prog.info? 245).map (fun i => (i.zero, i.size, i.bytes)) = some (some e245.zero, e245.size, e245.bytes) := by kernel_rfl
abbrev e246 : TE := ⟨.func, 1, 8, .nilFunc⟩
theorem u246 : (Tryz.prog.underlying 246).map tdOf = some e246.td := by kernel_rfl
theorem i246 : (Tryz.prog.info? 246).map (fun i => (i.zero, i.size, i.bytes)) = some (some e246.zero, e246.size, e246.bytes) := by kernel_rfl
abbrev e247 : TE := ⟨.func, 1, 8, .nilFunc⟩
theorem u247 : (Tryz.prog.underlying 247).map tdOf = some e247.td := by kernel_rfl
theorem i247 : (Tryz.prog.info? 247).map (fun i => (i.zero, i.size, i.bytes)) = some (some e247.zero, e247.size, e247.bytes) := by kernel_rfl
abbrev e248 : TE := ⟨.func, 1, 8, .nilFunc⟩
theorem u248 : (Tryz.prog.underlying 248).map tdOf = some e248.td := by kernel_rfl
theorem i248 : (Tryz.prog.info? 248).map (fun i => (i.zero, i.size, i.bytes)) = some (some e248.zero, e248.size, e248.bytes) := by kernel_rfl
abbrev e249 : TE := ⟨.int .i64, 1, 8, .int .i64 0⟩
theorem u249 : (Tryz.prog.underlying 249).map tdOf = some e249.td := by kernel_rfl
theorem i249 : (Tryz.prog.info? 249).map (fun i => (i.zero, i.size, i.bytes)) = some (some e249.zero, e249.size, e249.bytes) := by kernel_rfl
abbrev e251 : TE := ⟨.func, 1, 8, .nilFunc⟩
theorem u251 : (Tryz.prog.underlying 251).map tdOf = some e251.td := by kernel_rfl
theorem i251 : (Tryz.prog.info? 251).map (fun i => (i.zero, i.size, i.bytes)) = some (some e251.zero, e251.size, e251.bytes) := by kernel_rfl
abbrev e252 : TE := ⟨.func, 1, 8, .nilFunc⟩
theorem u252 : (Tryz.prog.underlying 252).map tdOf = some e252.td := by kernel_rfl
theorem i252 : (Tryz.prog.info? 252).map (fun i => (i.zero, i.size, i.bytes)) = some (some e252.zero, e252.size, e252.bytes) := by kernel_rfl
abbrev e253 : TE := ⟨.func, 1, 8, .nilFunc⟩
theorem u253 : (Tryz.prog.underlying 253).map tdOf = some e253.td := by kernel_rfl
theorem i253 : (Tryz.prog.info? 253).map (fun i => (i.zero, i.size, i.bytes)) = some (some e253.zero, e253.size, e253.bytes) := by kernel_rfl
abbrev e254 : TE := ⟨.func, 1, 8, .nilFunc⟩
theorem u254 : (Tryz.prog.underlying 254).map tdOf = some e254.td := by kernel_rfl
theorem i254 : (Tryz.prog.info? 254).map (fun i => (i.zero, i.size, i.bytes)) = some (some e254.zero, e254.size, e254.bytes) := by kernel_rfl
abbrev e255 : TE := ⟨.func, 1, 8, .nilFunc⟩
theorem u255 : (Tryz.prog.underlying 255).map tdOf = some e255.td := by kernel_rfl
theorem i255 : (Tryz.prog.info? 255).map (fun i => (i.zero, i.size, i.bytes)) = some (some e255.zero, e255.size, e255.bytes) := by kernel_rfl
abbrev e256 : TE := ⟨.func, 1, 8, .nilFunc⟩
theorem u256 : (Tryz.prog.underlying 256).map tdOf = some e256.td := by kernel_rfl
theorem i256 : (Tryz.prog.info? 256).map (fun i => (i.zero, i.size, i.bytes)) = some (some e256.zero, e256.size, e256.bytes) := by kernel_rfl
abbrev e257 : TE := ⟨.func, 1, 8, .nilFunc⟩
theorem u257 : (Tryz.prog.underlying 257).map tdOf = some e257.td := by kernel_rfl
theorem i257 : (Tryz.prog.info? 257).map (fun i => (i.zero, i.size, i.bytes)) = some (some e257.zero, e257.size, e257.bytes) := by kernel_rfl
abbrev e258 : TE := ⟨.func, 1, 8, .nilFunc⟩
theorem u258 : (Tryz.prog.underlying 258).map tdOf = some e258.td := by kernel_rfl
theorem i258 : (Tryz.prog.info? 258).map (fun i => (i.zero, i.size, i.bytes)) = some (some e258.zero, e258.size, e258.bytes) := by kernel_rfl
abbrev e259 : TE := ⟨.func, 1, 8, .nilFunc⟩
theorem u259 : (Tryz.prog.underlying 259).map tdOf = some e259.td := by kernel_rfl
theorem i259 : (Tryz.prog.info? 259).map (fun i => (i.zero, i.size, i.bytes)) = some (some e259.zero, e259.size, e259.bytes) := by kernel_rfl
abbrev e260 : TE := ⟨.ptr 5, 1, 8, .pointer none⟩
theorem u260 : (Tryz.prog.underlying 260).map tdOf = some e260.td := by kernel_rfl
theorem i260 : (Tryz.prog.info? 260).map (fun i => (i.zero, i.size, i.bytes)) = some (some e260.zero, e260.size, e260.bytes) := by kernel_rfl
abbrev e261 : TE := ⟨.func, 1, 8, .nilFunc⟩
theorem u261 : (Tryz.prog.underlying 261).map tdOf = some e261.td := by kernel_rfl
theorem i261 : (Tryz.prog.info? 261).map (fun i => (i.zero, i.size, i.bytes)) = some (some e261.zero, e261.size, e261.bytes) := by kernel_rfl
abbrev e262 : TE := ⟨.func, 1, 8, .nilFunc⟩
theorem u262 : (Tryz.prog.underlying 262).map tdOf = some e262.td := by kernel_rfl
theorem i262 : (Tryz.prog.info? 262).map (fun i => (i.zero, i.size, i.bytes)) = some (some e262.zero, e262.size, e262.bytes) := by kernel_rfl
abbrev e263 : TE := ⟨.func, 1, 8, .nilFunc⟩
theorem u263 : (Tryz.prog.underlying 263).map tdOf = some e263.td := by kernel_rfl
theorem i263 : (Tryz.prog.info? 263).map (fun i => (i.zero, i.size, i.bytes)) = some (some e263.zero, e263.size, e263.bytes) := by kernel_rfl
abbrev e264 : TE := ⟨.int .u64, 1, 8, .int .u64 0⟩
theorem u264 : (Tryz.prog.underlying 264).map tdOf = some e264.td := by kernel_rfl
theorem i264 : (Tryz.prog.info? 264).map (fun i => (i.zero, i.size, i.bytes)) = some (some e264.zero, e264.size, e264.bytes) := by kernel_rfl
abbrev e265 : TE := ⟨.func, 1, 8, .nilFunc⟩
theorem u265 : (Tryz.prog.underlying 265).map tdOf = some e265.td := by kernel_rfl
theorem i265 : (Tryz.prog.info? 265).map (fun i => (i.zero, i.size, i.bytes)) = some (some e265.zero, e265.size, e265.bytes) := by kernel_rfl
abbrev e266 : TE := ⟨.func, 1, 8, .nilFunc⟩
theorem u266 : (Tryz.prog.underlying 266).map tdOf = some e266.td := by kernel_rfl
theorem i266 : (Tryz.prog.info? 266).map (fun i => (i.zero, i.size, i.bytes)) = some (some e266.zero, e266.size, e266.bytes) := by kernel_rfl
abbrev e267 : TE := ⟨.func, 1, 8, .nilFunc⟩
theorem u267 : (Tryz.prog.underlying 267).map tdOf = some e267.td := by kernel_rfl
theorem i267 : (Tryz.prog.info? 267).map (fun i => (i.zero, i.size, i.bytes)) = some (some e267.zero, e267.size, e267.bytes) := by kernel_rfl
abbrev e268 : TE := ⟨.ptr 3, 1, 8, .pointer none⟩
theorem u268 : (Tryz.prog.underlying 268).map tdOf = some e268.td := by kernel_rfl
theorem i268 : (Tryz.prog.info? 268).map (fun i => (i.zero, i.size, i.bytes)) = some (some e268.zero, e268.size, e268.bytes) := by kernel_rfl
abbrev e269 : TE := ⟨.func, 1, 8, .nilFunc⟩
theorem u269 : (Tryz.prog.underlying 269).map tdOf = some e269.td := by kernel_rfl
theorem i269 : (Tryz.prog.info? 269).map (fun i => (i.zero, i.size, i.bytes)) = some (some e269.zero, e269.size, e269.bytes) := by kernel_rfl
abbrev e270 : TE := ⟨.func, 1, 8, .nilFunc⟩
theorem u270 : (Tryz.prog.underlying 270).map tdOf = some e270.td := by kernel_rfl
theorem i270 : (Tryz.prog.info? 270).map (fun i => (i.zero, i.size, i.bytes)) = some (some e270.zero, e270.size, e270.bytes) := by kernel_rfl
abbrev e271 : TE := ⟨.other, 1, 8, .pointer none⟩
theorem u271 : (Tryz.prog.underlying 271).map tdOf = some e271.td := by kernel_rfl
theorem i271 : (Tryz.prog.info? 271).map (fun i => (i.zero, i.size, i.bytes)) = some (some e271.zero, e271.size, e271.bytes) := by kernel_rfl
abbrev e272 : TE := ⟨.func, 1, 8, .nilFunc⟩
theorem u272 : (Tryz.prog.underlying 272).map tdOf = some e272.td := by kernel_rfl
theorem i272 : (Tryz.prog.info? 272).map (fun i => (i.zero, i.size, i.bytes)) = some (some e272.zero, e272.size, e272.bytes) := by kernel_rfl
abbrev e273 : TE := ⟨.func, 1, 8, .nilFunc⟩
theorem u273 : (Tryz.prog.underlying 273).map tdOf = some e273.td := by kernel_rfl
theorem i273 : (Tryz.prog.info? 273).map (fun i => (i.zero, i.size, i.bytes)) = some (some e273.zero, e273.size, e273.bytes) := by kernel_rfl
abbrev e274 : TE := ⟨.func, 1, 8, .nilFunc⟩
theorem u274 : (Tryz.prog.underlying 274).map tdOf = some e274.td := by kernel_rfl
theorem i274 : (Tryz.prog.info? 274).map (fun i => (i.zero, i.size, i.bytes)) = some (some e274.zero, e274.size, e274.bytes) := by kernel_rfl
abbrev e275 : TE := ⟨.func, 1, 8, .nilFunc⟩
theorem u275 : (Tryz.prog.underlying 275).map tdOf = some e275.td := by kernel_rfl
theorem i275 : (Tryz.prog.info? 275).map (fun i => (i.zero, i.size, i.bytes)) = some (some e275.zero, e275.size, e275.bytes) := by kernel_rfl
abbrev e276 : TE := ⟨.func, 1, 8, .nilFunc⟩
theorem u276 : (Tryz.prog.underlying 276).map tdOf = some e276.td := by kernel_rfl
theorem i276 : (Tryz.prog.info? 276).map (fun i => (i.zero, i.size, i.bytes)) = some (some e276.zero, e276.size, e276.bytes) := by kernel_rfl
abbrev e277 : TE := ⟨.func, 1, 8, .nilFunc⟩
theorem u277 : (Tryz.prog.underlying 277).map tdOf = some e277.td := by kernel_rfl
theorem i277 : (Tryz.prog.info? 277).map (fun i => (i.zero, i.size, i.bytes)) = some (some e277.zero, e277.size, e277.bytes) := by kernel_rfl
abbrev e278 : TE := ⟨.func, 1, 8, .nilFunc⟩
theorem u278 : (Tryz.prog.underlying 278).map tdOf = some e278.td := by kernel_rfl
theorem i278 : (Tryz.prog.info? 278).map (fun i => (i.zero, i.size, i.bytes)) = some (some e278.zero, e278.size, e278.bytes) := by kernel_rfl
abbrev e279 : TE := ⟨.ptr 264, 1, 8, .pointer none⟩
theorem u279 : (Tryz.prog.underlying 279).map tdOf = some e279.td := by kernel_rfl
theorem i279 : (Tryz.prog.info? 279).map (fun i => (i.zero, i.size, i.bytes)) = some (some e279.zero, e279.size, e279.bytes) := by kernel_rfl
abbrev e281 : TE := ⟨.func, 1, 8, .nilFunc⟩
theorem u281 : (Tryz.prog.underlying 281).map tdOf = some e281.td := by kernel_rfl
theorem i281 : (Tryz.prog.info? 281).map (fun i => (i.zero, i.size, i.bytes)) = some (some e281.zero, e281.size, e281.bytes) := by kernel_rfl
abbrev e282 : TE := ⟨.func, 1, 8, .nilFunc⟩
theorem u282 : (Tryz.prog.underlying 282).map tdOf = some e282.td := by kernel_rfl
theorem i282 : (Tryz.prog.info? 282).map (fun i => (i.zero, i.size, i.bytes)) = some (some e282.zero, e282.size, e282.bytes) := by kernel_rfl
abbrev e283 : TE := ⟨.func, 1, 8, .nilFunc⟩
theorem u283 : (Tryz.prog.underlying 283).map tdOf = some e283.td := by kernel_rfl
theorem i283 : (Tryz.prog.info? 283).map (fun i => (i.zero, i.size, i.bytes)) = some (some e283.zero, e283.size, e283.bytes) := by kernel_rfl
abbrev e284 : TE := ⟨.func, 1, 8, .nilFunc⟩
theorem u284 : (Tryz.prog.underlying 284).map tdOf = some e284.td := by kernel_rfl
theorem i284 : (Tryz.prog.info? 284).map (fun i => (i.zero, i.size, i.bytes)) = some (some e284.zero, e284.size, e284.bytes) := by kernel_rfl
abbrev e285 : TE := ⟨.func, 1, 8, .nilFunc⟩
theorem u285 : (Tryz.prog.underlying 285).map tdOf = some e285.td := by kernel_rfl
theorem i285 : (Tryz.prog.info? 285).map (fun i => (i.zero, i.size, i.bytes)) = some (some e285.zero, e285.size, e285.bytes) := by kernel_rfl
abbrev e293 : TE := ⟨.func, 1, 8, .nilFunc⟩
theorem u293 : (Tryz.prog.underlying 293).map tdOf = some e293.td := by kernel_rfl
theorem i293 : (Tryz.prog.info? 293).map (fun i => (i.zero, i.size, i.bytes)) = some (some e293.zero, e293.size, e293.bytes) := by kernel_rfl
abbrev tabL : List (Nat × TE) := [(1, ⟨.func, 1, 8, .nilFunc⟩), (2, ⟨.int .i64, 1, 8, .int .i64 0⟩), (3, ⟨.int .i64, 1, 8, .int .i64 0⟩), (4, ⟨.bool, 1, 1, .bool false⟩), (5, ⟨.int .u8, 1, 1, .int .u8 0⟩), (9, ⟨.string, 1, 16, .string ⟨#[]⟩⟩), (12, ⟨.int .u64, 1, 8, .int .u64 0⟩), (13, ⟨.struct [(9, 0), (12, 1)], 2, 24, .agg #[.string ⟨#[]⟩, .int .u64 0]⟩), (20, ⟨.iface, 1, 16, .nilIface⟩), (21, ⟨.int .i32, 1, 4, .int .i32 0⟩), (22, ⟨.func, 1, 8, .nilFunc⟩), (23, ⟨.func, 1, 8, .nilFunc⟩), (24, ⟨.ptr 35, 1, 8, .pointer none⟩), (25, ⟨.ptr 62, 1, 8, .pointer none⟩), (27, ⟨.func, 1, 8, .nilFunc⟩), (28, ⟨.slice 3, 1, 24, .slice none 0 0⟩), (29, ⟨.ptr 92, 1, 8, .pointer none⟩), (30, ⟨.func, 1, 8, .nilFunc⟩), (31, ⟨.slice 76, 1, 24, .slice none 0 0⟩), (32, ⟨.slice 46, 1, 24, .slice none 0 0⟩), (33, ⟨.ptr 118, 1, 8, .pointer none⟩), (34, ⟨.struct [(31, 0), (32, 1), (33, 2)], 3, 56, .agg #[.slice none 0 0, .slice none 0 0, .pointer none]⟩), (35, ⟨.struct [(31, 0), (32, 1), (33, 2)], 3, 56, .agg #[.slice none 0 0, .slice none 0 0, .pointer none]⟩), (36, ⟨.slice 49, 1, 24, .slice none 0 0⟩), (37, ⟨.int .i64, 1, 8, .int .i64 0⟩), (39, ⟨.func, 1, 8, .nilFunc⟩), (40, ⟨.func, 1, 8, .nilFunc⟩), (41, ⟨.func, 1, 8, .nilFunc⟩), (42, ⟨.func, 1, 8, .nilFunc⟩), (43, ⟨.slice 9, 1, 24, .slice none 0 0⟩), (44, ⟨.struct [(3, 0), (36, 1)], 2, 32, .agg #[.int .i64 0, .slice none 0 0]⟩), (45, ⟨.struct [(3, 0), (36, 1)], 2, 32, .agg #[.int .i64 0, .slice none 0 0]⟩), (46, ⟨.ptr 103, 1, 8, .pointer none⟩), (47, ⟨.func, 1, 8, .nilFunc⟩), (48, ⟨.struct [(3, 0), (9, 1)], 2, 24, .agg #[.int .i64 0, .string ⟨#[]⟩]⟩), (49, ⟨.struct [(3, 0), (9, 1)], 2, 24, .agg #[.int .i64 0, .string ⟨#[]⟩]⟩), (50, ⟨.func, 1, 8, .nilFunc⟩), (51, ⟨.func, 1, 8, .nilFunc⟩), (52, ⟨.func, 1, 8, .nilFunc⟩), (53, ⟨.slice 64, 1, 24, .slice none 0 0⟩), (54, ⟨.slice 29, 1, 24, .slice none 0 0⟩), (55, ⟨.slice 56, 1, 24, .slice none 0 0⟩), (56, ⟨.ptr 68, 1, 8, .pointer none⟩), (57, ⟨.func, 1, 8, .nilFunc⟩), (58, ⟨.slice 86, 1, 24, .slice none 0 0⟩), (59, ⟨.slice 88, 1, 24, .slice none 0 0⟩), (60, ⟨.ptr 84, 1, 8, .pointer none⟩), (61, ⟨.struct [(58, 0), (59, 1), (60, 2)], 3, 56, .agg #[.slice none 0 0, .slice none 0 0, .pointer none]⟩), (62, ⟨.struct [(58, 0), (59, 1), (60, 2)], 3, 56, .agg #[.slice none 0 0, .slice none 0 0, .pointer none]⟩), (63, ⟨.struct [(3, 0), (3, 1), (3, 2), (9, 3), (28, 4), (3, 5), (3, 6), (28, 7)], 8, 104, .agg #[.int .i64 0, .int .i64 0, .int .i64 0, .string ⟨#[]⟩, .slice none 0 0, .int .i64 0, .int .i64 0, .slice none 0 0]⟩), (64, ⟨.struct [(3, 0), (3, 1), (3, 2), (9, 3), (28, 4), (3, 5), (3, 6), (28, 7)], 8, 104, .agg #[.int .i64 0, .int .i64 0, .int .i64 0, .string ⟨#[]⟩, .slice none 0 0, .int .i64 0, .int .i64 0, .slice none 0 0]⟩), (65, ⟨.func, 1, 8, .nilFunc⟩), (66, ⟨.func, 1, 8, .nilFunc⟩), (67, ⟨.struct [(59, 0), (60, 1), (3, 2), (3, 3), (4, 4)], 5, 56, .agg #[.slice none 0 0, .pointer none, .int .i64 0, .int .i64 0, .bool false]⟩), (68, ⟨.struct [(59, 0), (60, 1), (3, 2), (3, 3), (4, 4)], 5, 56, .agg #[.slice none 0 0, .pointer none, .int .i64 0, .int .i64 0, .bool false]⟩), (69, ⟨.func, 1, 8, .nilFunc⟩), (70, ⟨.func, 1, 8, .nilFunc⟩), (71, ⟨.struct [(3, 0), (9, 1)], 2, 24, .agg #[.int .i64 0, .string ⟨#[]⟩]⟩), (72, ⟨.struct [(3, 0), (9, 1)], 2, 24, .agg #[.int .i64 0, .string ⟨#[]⟩]⟩), (74, ⟨.func, 1, 8, .nilFunc⟩), (75, ⟨.func, 1, 8, .nilFunc⟩), (76, ⟨.ptr 135, 1, 8, .pointer none⟩), (77, ⟨.func, 1, 8, .nilFunc⟩), (78, ⟨.func, 1, 8, .nilFunc⟩), (80, ⟨.func, 1, 8, .nilFunc⟩), (81, ⟨.func, 1, 8, .nilFunc⟩), (82, ⟨.slice 72, 1, 24, .slice none 0 0⟩), (83, ⟨.struct [(82, 0), (28, 1)], 2, 48, .agg #[.slice none 0 0, .slice none 0 0]⟩), (84, ⟨.struct [(82, 0), (28, 1)], 2, 48, .agg #[.slice none 0 0, .slice none 0 0]⟩), (85, ⟨.func, 1, 8, .nilFunc⟩), (86, ⟨.ptr 149, 1, 8, .pointer none⟩), (87, ⟨.func, 1, 8, .nilFunc⟩), (88, ⟨.ptr 112, 1, 8, .pointer none⟩), (90, ⟨.func, 1, 8, .nilFunc⟩), (91, ⟨.struct [(32, 0), (33, 1), (3, 2), (3, 3), (4, 4)], 5, 56, .agg #[.slice none 0 0, .pointer none, .int .i64 0, .int .i64 0, .bool false]⟩), (92, ⟨.struct [(32, 0), (33, 1), (3, 2), (3, 3), (4, 4)], 5, 56, .agg #[.slice none 0 0, .pointer none, .int .i64 0, .int .i64 0, .bool false]⟩), (93, ⟨.slice 45, 1, 24, .slice none 0 0⟩), (95, ⟨.func, 1, 8, .nilFunc⟩), (96, ⟨.func, 1, 8, .nilFunc⟩), (97, ⟨.func, 1, 8, .nilFunc⟩), (99, ⟨.func, 1, 8, .nilFunc⟩), (100, ⟨.func, 1, 8, .nilFunc⟩), (101, ⟨.func, 1, 8, .nilFunc⟩), (102, ⟨.struct [(76, 0), (3, 1), (45, 2), (4, 4)], 5, 56, .agg #[.pointer none, .int .i64 0, .int .i64 0, .slice none 0 0, .bool false]⟩), (103, ⟨.struct [(76, 0), (3, 1), (45, 2), (4, 4)], 5, 56, .agg #[.pointer none, .int .i64 0, .int .i64 0, .slice none 0 0, .bool false]⟩), (104, ⟨.func, 1, 8, .nilFunc⟩), (105, ⟨.func, 1, 8, .nilFunc⟩), (106, ⟨.func, 1, 8, .nilFunc⟩), (108, ⟨.func, 1, 8, .nilFunc⟩), (109, ⟨.func, 1, 8, .nilFunc⟩), (110, ⟨.func, 1, 8, .nilFunc⟩), (111, ⟨.struct [(86, 0), (3, 1), (45, 2), (4, 4)], 5, 56, .agg #[.pointer none, .int .i64 0, .int .i64 0, .slice none 0 0, .bool false]⟩), (112, ⟨.struct [(86, 0), (3, 1), (45, 2), (4, 4)], 5, 56, .agg #[.pointer none, .int .i64 0, .int .i64 0, .slice none 0 0, .bool false]⟩), (113, ⟨.func, 1, 8, .nilFunc⟩), (114, ⟨.slice 179, 1, 24, .slice none 0 0⟩), (115, ⟨.struct [(114, 0)], 1, 24, .agg #[.slice none 0 0]⟩), (116, ⟨.struct [(114, 0)], 1, 24, .agg #[.slice none 0 0]⟩), (117, ⟨.struct [(116, 0)], 1, 24, .agg #[.slice none 0 0]⟩), (118, ⟨.struct [(116, 0)], 1, 24, .agg #[.slice none 0 0]⟩), (119, ⟨.func, 1, 8, .nilFunc⟩), (120, ⟨.func, 1, 8, .nilFunc⟩), (121, ⟨.struct [(9, 0), (3, 1), (36, 2)], 3, 48, .agg #[.string ⟨#[]⟩, .int .i64 0, .slice none 0 0]⟩), (122, ⟨.struct [(9, 0), (3, 1), (36, 2)], 3, 48, .agg #[.string ⟨#[]⟩, .int .i64 0, .slice none 0 0]⟩), (123, ⟨.func, 1, 8, .nilFunc⟩), (124, ⟨.func, 1, 8, .nilFunc⟩), (125, ⟨.func, 1, 8, .nilFunc⟩), (126, ⟨.func, 1, 8, .nilFunc⟩), (127, ⟨.func, 1, 8, .nilFunc⟩), (128, ⟨.struct [], 0, 0, .agg #[]⟩), (129, ⟨.struct [], 0, 0, .agg #[]⟩), (130, ⟨.func, 1, 8, .nilFunc⟩), (131, ⟨.func, 1, 8, .nilFunc⟩), (132, ⟨.func, 1, 8, .nilFunc⟩), (133, ⟨.map 9 138, 1, 8, .map none⟩), (134, ⟨.struct [(133, 0), (3, 1), (3, 2), (3, 3), (4, 4)], 5, 40, .agg #[.map none, .int .i64 0, .int .i64 0, .int .i64 0, .bool false]⟩), (135, ⟨.struct [(133, 0), (3, 1), (3, 2), (3, 3), (4, 4)], 5, 40, .agg #[.map none, .int .i64 0, .int .i64 0, .int .i64 0, .bool false]⟩), (136, ⟨.func, 1, 8, .nilFunc⟩), (137, ⟨.struct [(9, 0), (3, 1)], 2, 24, .agg #[.string ⟨#[]⟩, .int .i64 0]⟩), (138, ⟨.struct [(9, 0), (3, 1)], 2, 24, .agg #[.string ⟨#[]⟩, .int .i64 0]⟩), (139, ⟨.func, 1, 8, .nilFunc⟩), (141, ⟨.func, 1, 8, .nilFunc⟩), (143, ⟨.func, 1, 8, .nilFunc⟩), (145, ⟨.func, 1, 8, .nilFunc⟩), (146, ⟨.func, 1, 8, .nilFunc⟩), (147, ⟨.slice 176, 1, 24, .slice none 0 0⟩), (148, ⟨.struct [(3, 0), (147, 1), (3, 2), (4, 3)], 4, 48, .agg #[.int .i64 0, .slice none 0 0, .int .i64 0, .bool false]⟩), (149, ⟨.struct [(3, 0), (147, 1), (3, 2), (4, 3)], 4, 48, .agg #[.int .i64 0, .slice none 0 0, .int .i64 0, .bool false]⟩), (151, ⟨.func, 1, 8, .nilFunc⟩), (153, ⟨.func, 1, 8, .nilFunc⟩), (155, ⟨.func, 1, 8, .nilFunc⟩), (157, ⟨.func, 1, 8, .nilFunc⟩), (158, ⟨.func, 1, 8, .nilFunc⟩), (159, ⟨.func, 1, 8, .nilFunc⟩), (160, ⟨.func, 1, 8, .nilFunc⟩), (161, ⟨.func, 1, 8, .nilFunc⟩), (162, ⟨.map 3 28, 1, 8, .map none⟩), (163, ⟨.func, 1, 8, .nilFunc⟩), (165, ⟨.func, 1, 8, .nilFunc⟩), (166, ⟨.func, 1, 8, .nilFunc⟩), (168, ⟨.func, 1, 8, .nilFunc⟩), (169, ⟨.func, 1, 8, .nilFunc⟩), (170, ⟨.struct [(9, 0), (3, 1), (3, 2), (36, 3)], 4, 56, .agg #[.string ⟨#[]⟩, .int .i64 0, .int .i64 0, .slice none 0 0]⟩), (171, ⟨.struct [(9, 0), (3, 1), (3, 2), (36, 3)], 4, 56, .agg #[.string ⟨#[]⟩, .int .i64 0, .int .i64 0, .slice none 0 0]⟩), (173, ⟨.func, 1, 8, .nilFunc⟩), (174, ⟨.func, 1, 8, .nilFunc⟩), (175, ⟨.struct [(9, 0), (9, 1), (3, 2)], 3, 40, .agg #[.string ⟨#[]⟩, .string ⟨#[]⟩, .int .i64 0]⟩), (176, ⟨.struct [(9, 0), (9, 1), (3, 2)], 3, 40, .agg #[.string ⟨#[]⟩, .string ⟨#[]⟩, .int .i64 0]⟩), (177, ⟨.ptr 116, 1, 8, .pointer none⟩), (178, ⟨.struct [(72, 0), (3, 2)], 3, 32, .agg #[.int .i64 0, .string ⟨#[]⟩, .int .i64 0]⟩), (179, ⟨.struct [(72, 0), (3, 2)], 3, 32, .agg #[.int .i64 0, .string ⟨#[]⟩, .int .i64 0]⟩), (180, ⟨.func, 1, 8, .nilFunc⟩), (183, ⟨.func, 1, 8, .nilFunc⟩), (184, ⟨.func, 1, 8, .nilFunc⟩), (185, ⟨.func, 1, 8, .nilFunc⟩), (186, ⟨.func, 1, 8, .nilFunc⟩), (187, ⟨.func, 1, 8, .nilFunc⟩), (188, ⟨.func, 1, 8, .nilFunc⟩), (189, ⟨.func, 1, 8, .nilFunc⟩), (190, ⟨.func, 1, 8, .nilFunc⟩), (191, ⟨.func, 1, 8, .nilFunc⟩), (193, ⟨.func, 1, 8, .nilFunc⟩), (194, ⟨.int .u32, 1, 4, .int .u32 0⟩), (195, ⟨.func, 1, 8, .nilFunc⟩), (196, ⟨.int .u64, 1, 8, .int .u64 0⟩), (197, ⟨.int .u64, 1, 8, .int .u64 0⟩), (198, ⟨.func, 1, 8, .nilFunc⟩), (200, ⟨.func, 1, 8, .nilFunc⟩), (201, ⟨.struct [], 0, 0, .agg #[]⟩), (202, ⟨.func, 1, 8, .nilFunc⟩), (204, ⟨.func, 1, 8, .nilFunc⟩), (206, ⟨.func, 1, 8, .nilFunc⟩), (208, ⟨.func, 1, 8, .nilFunc⟩), (209, ⟨.func, 1, 8, .nilFunc⟩), (210, ⟨.func, 1, 8, .nilFunc⟩), (211, ⟨.func, 1, 8, .nilFunc⟩), (213, ⟨.func, 1, 8, .nilFunc⟩), (214, ⟨.func, 1, 8, .nilFunc⟩), (215, ⟨.slice 5, 1, 24, .slice none 0 0⟩), (216, ⟨.func, 1, 8, .nilFunc⟩), (217, ⟨.func, 1, 8, .nilFunc⟩), (218, ⟨.func, 1, 8, .nilFunc⟩), (220, ⟨.func, 1, 8, .nilFunc⟩), (221, ⟨.func, 1, 8, .nilFunc⟩), (222, ⟨.func, 1, 8, .nilFunc⟩), (224, ⟨.func, 1, 8, .nilFunc⟩), (225, ⟨.func, 1, 8, .nilFunc⟩), (226, ⟨.func, 1, 8, .nilFunc⟩), (227, ⟨.func, 1, 8, .nilFunc⟩), (228, ⟨.ptr 230, 1, 8, .pointer none⟩), (229, ⟨.struct [(228, 0), (215, 1)], 2, 32, .agg #[.pointer none, .slice none 0 0]⟩), (230, ⟨.struct [(228, 0), (215, 1)], 2, 32, .agg #[.pointer none, .slice none 0 0]⟩), (231, ⟨.iface, 1, 16, .nilIface⟩), (232, ⟨.iface, 1, 16, .nilIface⟩), (234, ⟨.func, 1, 8, .nilFunc⟩), (235, ⟨.func, 1, 8, .nilFunc⟩), (236, ⟨.func, 1, 8, .nilFunc⟩), (237, ⟨.func, 1, 8, .nilFunc⟩), (238, ⟨.arr 4 5, 4, 4, .agg #[.int .u8 0, .int .u8 0, .int .u8 0, .int .u8 0]⟩), (240, ⟨.func, 1, 8, .nilFunc⟩), (241, ⟨.func, 1, 8, .nilFunc⟩), (242, ⟨.slice 241, 1, 24, .slice none 0 0⟩), (243, ⟨.func, 1, 8, .nilFunc⟩), (244, ⟨.func, 1, 8, .nilFunc⟩), (245, ⟨.func, 1, 8, .nilFunc⟩), (246, ⟨.func, 1, 8, .nilFunc⟩), (247, ⟨.func, 1, 8, .nilFunc⟩), (248, ⟨.func, 1, 8, .nilFunc⟩), (249, ⟨.int .i64, 1, 8, .int .i64 0⟩), (251, ⟨.func, 1, 8, .nilFunc⟩), (252, ⟨.func, 1, 8, .nilFunc⟩), (253, ⟨.func, 1, 8, .nilFunc⟩), (254, ⟨.func, 1, 8, .nilFunc⟩), (255, ⟨.func, 1, 8, .nilFunc⟩), (256, ⟨.func, 1, 8, .nilFunc⟩), (257, ⟨.func, 1, 8, .nilFunc⟩), (258, ⟨.func, 1, 8, .nilFunc⟩), (259, ⟨.func, 1, 8, .nilFunc⟩), (260, ⟨.ptr 5, 1, 8, .pointer none⟩), (261, ⟨.func, 1, 8, .nilFunc⟩), (262, ⟨.func, 1, 8, .nilFunc⟩), (263, ⟨.func, 1, 8, .nilFunc⟩), (264, ⟨.int .u64, 1, 8, .int .u64 0⟩), (265, ⟨.func, 1, 8, .nilFunc⟩), (266, ⟨.func, 1, 8, .nilFunc⟩), (267, ⟨.func, 1, 8, .nilFunc⟩), (268, ⟨.ptr 3, 1, 8, .pointer none⟩), (269, ⟨.func, 1, 8, .nilFunc⟩), (270, ⟨.func, 1, 8, .nilFunc⟩), (271, ⟨.other, 1, 8, .pointer none⟩), (272, ⟨.func, 1, 8, .nilFunc⟩), (273, ⟨.func, 1, 8, .nilFunc⟩), (274, ⟨.func, 1, 8, .nilFunc⟩), (275, ⟨.func, 1, 8, .nilFunc⟩), (276, ⟨.func, 1, 8, .nilFunc⟩), (277, ⟨.func, 1, 8, .nilFunc⟩), (278, ⟨.func, 1, 8, .nilFunc⟩), (279, ⟨.ptr 264, 1, 8, .pointer none⟩), (281, ⟨.func, 1, 8, .nilFunc⟩), (282, ⟨.func, 1, 8, .nilFunc⟩), (283, ⟨.func, 1, 8, .nilFunc⟩), (284, ⟨.func, 1, 8, .nilFunc⟩), (285, ⟨.func, 1, 8, .nilFunc⟩), (293, ⟨.func, 1, 8, .nilFunc⟩)]
theorem tabL_u : ∀ x ∈ tabL, (Tryz.prog.underlying x.1).map tdOf = some x.2.td := by
  intro x hx
  simp only [tabL, List.mem_cons, List.not_mem_nil, or_false] at hx
  rcases hx with rfl | rfl | rfl | rfl | rfl | rfl | rfl | rfl | rfl | rfl | rfl | rfl | rfl | rfl | rfl | rfl | rfl | rfl | rfl | rfl | rfl | rfl | rfl | rfl | rfl | rfl | rfl | rfl | rfl | rfl | rfl | rfl | rfl | rfl | rfl | rfl | rfl | rfl | rfl | rfl | rfl | rfl | rfl | rfl | rfl | rfl | rfl | rfl | rfl | rfl | rfl | rfl | rfl | rfl | rfl | rfl | rfl | rfl | rfl | rfl | rfl | rfl | rfl | rfl | rfl | rfl | rfl | rfl | rfl | rfl | rfl | rfl | rfl | rfl | rfl | rfl | rfl | rfl | rfl | rfl | rfl | rfl | rfl | rfl | rfl | rfl | rfl | rfl | rfl | rfl | rfl | rfl | rfl | rfl | rfl | rfl | rfl | rfl | rfl | rfl | rfl | rfl | rfl | rfl | rfl | rfl | rfl | rfl | rfl | rfl | rfl | rfl | rfl | rfl | rfl | rfl | rfl | rfl | rfl | rfl | rfl | rfl | rfl | rfl | rfl | rfl | rfl | rfl | rfl | rfl | rfl | rfl | rfl | rfl | rfl | rfl | rfl | rfl | rfl | rfl | rfl | rfl | rfl | rfl | rfl | rfl | rfl | rfl | rfl | rfl | rfl | rfl | rfl | rfl | rfl | rfl | rfl | rfl | rfl | rfl | rfl | rfl | rfl | rfl | rfl | rfl | rfl | rfl | rfl | rfl | rfl | rfl | rfl | rfl | rfl | rfl | rfl | rfl | rfl | rfl | rfl | rfl | rfl | rfl | rfl | rfl | rfl | rfl | rfl | rfl | rfl | rfl | rfl | rfl | rfl | rfl | rfl | rfl | rfl | rfl | rfl | rfl | rfl | rfl | rfl | rfl | rfl | rfl | rfl | rfl | rfl | rfl | rfl | rfl | rfl | rfl | rfl | rfl | rfl | rfl | rfl | rfl | rfl | rfl | rfl | rfl | rfl | rfl | rfl | rfl | rfl | rfl | rfl | rfl | rfl | rfl | rfl | rfl | rfl | rfl | rfl | rfl | rfl
  · exact u1
  · exact u2
  · exact u3
  · exact u4
  · exact u5
  · exact u9
  · exact u12
  · exact u13
  · exact u20
  · exact u21
  · exact u22
  · exact u23
  · exact u24
  · exact u25
  · exact u27
  · exact u28
  · exact u29
  · exact u30
  · exact u31
  · exact u32
  · exact u33
  · exact u34
  · exact u35
  · exact u36
  · exact u37
  · exact u39
  · exact u40
  · exact u41
  · exact u42
  · exact u43
  · exact u44
  · exact u45
  · exact u46
  · exact u47
  · exact u48
  · exact u49
  · exact u50
  · exact u51
  · exact u52
  · exact u53
  · exact u54
  · exact u55
  · exact u56
  · exact u57
  · exact u58
  · exact u59
  · exact u60
  · exact u61
  · exact u62
  · exact u63
  · exact u64
  · exact u65
  · exact u66
  · exact u67
  · exact u68
  · exact u69
  · exact u70
  · exact u71
  · exact u72
  · exact u74
  · exact u75
  · exact u76
  · exact u77
  · exact u78
  · exact u80
  · exact u81
  · exact u82
  · exact u83
  · exact u84
  · exact u85
  · exact u86
  · exact u87
  · exact u88
  · exact u90
  · exact u91
  · exact u92
  · exact u93
  · exact u95
  · exact u96
  · exact u97
  · exact u99
  · exact u100
  · exact u101
  · exact u102
  · exact u103
  · exact u104
  · exact u105
  · exact u106
  · exact u108
  · exact u109
  · exact u110
  · exact u111
  · exact u112
  · exact u113
  · exact u114
  · exact u115
  · exact u116
  · exact u117
  · exact u118
  · exact u119
  · exact u120
  · exact u121
  · exact u122
  · exact u123
  · exact u124
  · exact u125
  · exact u126
  · exact u127
  · exact u128
  · exact u129
  · exact u130
  · exact u131
  · exact u132
  · exact u133
  · exact u134
  · exact u135
  · exact u136
  · exact u137
  · exact u138
  · exact u139
  · exact u141
  · exact u143
  · exact u145
  · exact u146
  · exact u147
  · exact u148
  · exact u149
  · exact u151
  · exact u153
  · exact u155
  · exact u157
  · exact u158
  · exact u159
  · exact u160
  · exact u161
  · exact u162
  · exact u163
  · exact u165
  · exact u166
  · exact u168
  · exact u169
  · exact u170
  · exact u171
  · exact u173
  · exact u174
  · exact u175
  · exact u176
  · exact u177
  · exact u178
  · exact u179
  · exact u180
  · exact u183
  · exact u184
  · exact u185
  · exact u186
  · exact u187
  · exact u188
  · exact u189
  · exact u190
  · exact u191
  · exact u193
  · exact u194
  · exact u195
  · exact u196
  · exact u197
  · exact u198
  · exact u200
  · exact u201
  · exact u202
  · exact u204
  · exact u206
  · exact u208
  · exact u209
  · exact u210
  · exact u211
  · exact u213
  · exact u214
  · exact u215
  · exact u216
  · exact u217
  · exact u218
  · exact u220
  · exact u221
  · exact u222
  · exact u224
  · exact u225
  · exact u226
  · exact u227
  · exact u228
  · exact u229
  · exact u230
  · exact u231
  · exact u232
  · exact u234
  · exact u235
  · exact u236
  · exact u237
  · exact u238
  · exact u240
  · exact u241
  · exact u242
  · exact u243
  · exact u244
  · exact u245
  · exact u246
  · exact u247
  · exact u248
  · exact u249
  · exact u251
  · exact u252
  · exact u253
  · exact u254
  · exact u255
  · exact u256
  · exact u257
  · exact u258
  · exact u259
  · exact u260
  · exact u261
  · exact u262
  · exact u263
  · exact u264
  · exact u265
  · exact u266
  · exact u267
  · exact u268
  · exact u269
  · exact u270
  · exact u271
  · exact u272
  · exact u273
  · exact u274
  · exact u275
  · exact u276
  · exact u277
  · exact u278
  · exact u279
  · exact u281
  · exact u282
  · exact u283
  · exact u284
  · exact u285
  · exact u293
theorem tabL_i : ∀ x ∈ tabL, (Tryz.prog.info? x.1).map (fun i => (i.zero, i.size, i.bytes)) = some (some x.2.zero, x.2.size, x.2.bytes) := by
  intro x hx
  simp only [tabL, List.mem_cons, List.not_mem_nil, or_false] at hx
  rcases hx with rfl | rfl | rfl | rfl | rfl | rfl | rfl | rfl | rfl | rfl | rfl | rfl | rfl | rfl | rfl | rfl | rfl | rfl | rfl | rfl | rfl | rfl | rfl | rfl | rfl | rfl | rfl | rfl | rfl | rfl | rfl | rfl | rfl | rfl | rfl | rfl | rfl | rfl | rfl | rfl | rfl | rfl | rfl | rfl | rfl | rfl | rfl | rfl | rfl | rfl | rfl | rfl | rfl | rfl | rfl | rfl | rfl | rfl | rfl | rfl | rfl | rfl | rfl | rfl | rfl | rfl | rfl | rfl | rfl | rfl | rfl | rfl | rfl | rfl | rfl | rfl | rfl | rfl | rfl | rfl | rfl | rfl | rfl | rfl | rfl | rfl | rfl | rfl | rfl | rfl | rfl | rfl | rfl | rfl | rfl | rfl | rfl | rfl | rfl | rfl | rfl | rfl | rfl | rfl | rfl | rfl | rfl | rfl | rfl | rfl | rfl | rfl | rfl | rfl | rfl | rfl | rfl | rfl | rfl | rfl | rfl | rfl | rfl | rfl | rfl | rfl | rfl | rfl | rfl | rfl | rfl | rfl | rfl | rfl | rfl | rfl | rfl | rfl | rfl | rfl | rfl | rfl | rfl | rfl | rfl | rfl | rfl | rfl | rfl | rfl | rfl | rfl | rfl | rfl | rfl | rfl | rfl | rfl | rfl | rfl | rfl | rfl | rfl | rfl | rfl | rfl | rfl | rfl | rfl | rfl | rfl | rfl | rfl | rfl | rfl | rfl | rfl | rfl | rfl | rfl | rfl | rfl | rfl | rfl | rfl | rfl | rfl | rfl | rfl | rfl | rfl | rfl | rfl | rfl | rfl | rfl | rfl | rfl | rfl | rfl | rfl | rfl | rfl | rfl | rfl | rfl | rfl | rfl | rfl | rfl | rfl | rfl | rfl | rfl | rfl | rfl | rfl | rfl | rfl | rfl | rfl | rfl | rfl | rfl | rfl | rfl | rfl | rfl | rfl | rfl | rfl | rfl | rfl | rfl | rfl | rfl | rfl | rfl | rfl | rfl | rfl | rfl | rfl
  · exact i1
  · exact i2
  · exact i3
  · exact i4
  · exact i5
  · exact i9
  · exact i12
  · exact i13
  · exact i20
  · exact i21
  · exact i22
  · exact i23
  · exact i24
  · exact i25
  · exact i27
  · exact i28
  · exact i29
  · exact i30
  · exact i31
  · exact i32
  · exact i33
  · exact i34
  · exact i35
  · exact i36
  · exact i37
  · exact i39
  · exact i40
  · exact i41
  · exact i42
  · exact i43
  · exact i44
  · exact i45
  · exact i46
  · exact i47
  · exact i48
  · exact i49
  · exact i50
  · exact i51
  · exact i52
  · exact i53
  · exact i54
  · exact i55
  · exact i56
  · exact i57
  · exact i58
  · exact i59
  · exact i60
  · exact i61
  · exact i62
  · exact i63
  · exact i64
  · exact i65
  · exact i66
  · exact i67
  · exact i68
  · exact i69
  · exact i70
  · exact i71
  · exact i72
  · exact i74
  · exact i75
  · exact i76
  · exact i77
  · exact i78
  · exact i80
  · exact i81
  · exact i82
  · exact i83
  · exact i84
  · exact i85
  · exact i86
  · exact i87
  · exact i88
  · exact i90
  · exact i91
  · exact i92
  · exact i93
  · exact i95
  · exact i96
  · exact i97
  · exact i99
  · exact i100
  · exact i101
  · exact i102
  · exact i103
  · exact i104
  · exact i105
  · exact i106
  · exact i108
  · exact i109
  · exact i110
  · exact i111
  · exact i112
  · exact i113
  · exact i114
  · exact i115
  · exact i116
  · exact i117
  · exact i118
  · exact i119
  · exact i120
  · exact i121
  · exact i122
  · exact i123
  · exact i124
  · exact i125
  · exact i126
  · exact i127
  · exact i128
  · exact i129
  · exact i130
  · exact i131
  · exact i132
  · exact i133
  · exact i134
  · exact i135
  · exact i136
  · exact i137
  · exact i138
  · exact i139
  · exact i141
  · exact i143
  · exact i145
  · exact i146
  · exact i147
  · exact i148
  · exact i149
  · exact i151
  · exact i153
  · exact i155
  · exact i157
  · exact i158
  · exact i159
  · exact i160
  · exact i161
  · exact i162
  · exact i163
  · exact i165
  · exact i166
  · exact i168
  · exact i169
  · exact i170
  · exact i171
  · exact i173
  · exact i174
  · exact i175
  · exact i176
  · exact i177
  · exact i178
  · exact i179
  · exact i180
  · exact i183
  · exact i184
  · exact i185
  · exact i186
  · exact i187
  · exact i188
  · exact i189
  · exact i190
  · exact i191
  · exact i193
  · exact i194
  · exact i195
  · exact i196
  · exact i197
  · exact i198
  · exact i200
  · exact i201
  · exact i202
  · exact i204
  · exact i206
  · exact i208
  · exact i209
  · exact i210
  · exact i211
  · exact i213
  · exact i214
  · exact i215
  · exact i216
  · exact i217
  · exact i218
  · exact i220
  · exact i221
  · exact i222
  · exact i224
  · exact i225
  · exact i226
  · exact i227
  · exact i228
  · exact i229
  · exact i230
  · exact i231
  · exact i232
  · exact i234
  · exact i235
  · exact i236
  · exact i237
  · exact i238
  · exact i240
  · exact i241
  · exact i242
  · exact i243
  · exact i244
  · exact i245
  · exact i246
  · exact i247
  · exact i248
  · exact i249
  · exact i251
  · exact i252
  · exact i253
  · exact i254
  · exact i255
  · exact i256
  · exact i257
  · exact i258
  · exact i259
  · exact i260
  · exact i261
  · exact i262
  · exact i263
  · exact i264
  · exact i265
  · exact i266
  · exact i267
  · exact i268
  · exact i269
  · exact i270
  · exact i271
  · exact i272
  · exact i273
  · exact i274
  · exact i275
  · exact i276
  · exact i277
  · exact i278
  · exact i279
  · exact i281
  · exact i282
  · exact i283
  · exact i284
  · exact i285
  · exact i293
abbrev TT : Tab Tryz.prog := ⟨tabL, tabL_u, tabL_i⟩
theorem cmp49 : CmpT Tryz.prog 49 := ⟨by kernel_rfl, by kernel_rfl, by kernel_rfl, fun f hf => by
  have h : (Tryz.prog.fieldsOf 49).toList.all (fun f => f.name != "_") = true := by kernel_rfl
  have := List.all_eq_true.1 h f hf
  simpa using this⟩
theorem mixed : Tryz.prog.follows .mixedOrders = true := by kernel_rfl
theorem c3 : Callable Tryz.prog 3 := Callable.of Tryz.func3 (by kernel_rfl) rfl
theorem c4 : Callable Tryz.prog 4 := Callable.of Tryz.func4 (by kernel_rfl) rfl
theorem c5 : Callable Tryz.prog 5 := Callable.of Tryz.func5 (by kernel_rfl) rfl
theorem c6 : Callable Tryz.prog 6 := Callable.of Tryz.func6 (by kernel_rfl) rfl
theorem c7 : Callable Tryz.prog 7 := Callable.of Tryz.func7 (by kernel_rfl) rfl
theorem c8 : Callable Tryz.prog 8 := Callable.of Tryz.func8 (by kernel_rfl) rfl
theorem c9 : Callable Tryz.prog 9 := Callable.of Tryz.func9 (by kernel_rfl) rfl
theorem c10 : Callable Tryz.prog 10 := Callable.of Tryz.func10 (by kernel_rfl) rfl
theorem c11 : Callable Tryz.prog 11 := Callable.of Tryz.func11 (by kernel_rfl) rfl
theorem c12 : Callable Tryz.prog 12 := Callable.of Tryz.func12 (by kernel_rfl) rfl
theorem c13 : Callable Tryz.prog 13 := Callable.of Tryz.func13 (by kernel_rfl) rfl
theorem c14 : Callable Tryz.prog 14 := Callable.of Tryz.func14 (by kernel_rfl) rfl
theorem c15 : Callable Tryz.prog 15 := Callable.of Tryz.func15 (by kernel_rfl) rfl
theorem c16 : Callable Tryz.prog 16 := Callable.of Tryz.func16 (by kernel_rfl) rfl
theorem c17 : Callable Tryz.prog 17 := Callable.of Tryz.func17 (by kernel_rfl) rfl
theorem c21 : Callable Tryz.prog 21 := Callable.of Tryz.func21 (by kernel_rfl) rfl
theorem c22 : Callable Tryz.prog 22 := Callable.of Tryz.func22 (by kernel_rfl) rfl
theorem c23 : Callable Tryz.prog 23 := Callable.of Tryz.func23 (by kernel_rfl) rfl
theorem c24 : Callable Tryz.prog 24 := Callable.of Tryz.func24 (by kernel_rfl) rfl
theorem c25 : Callable Tryz.prog 25 := Callable.of Tryz.func25 (by kernel_rfl) rfl
theorem c26 : Callable Tryz.prog 26 := Callable.of Tryz.func26 (by kernel_rfl) rfl
theorem c27 : Callable Tryz.prog 27 := Callable.of Tryz.func27 (by kernel_rfl) rfl
theorem c28 : Callable Tryz.prog 28 := Callable.of Tryz.func28 (by kernel_rfl) rfl
theorem c29 : Callable Tryz.prog 29 := Callable.of Tryz.func29 (by kernel_rfl) rfl
theorem c30 : Callable Tryz.prog 30 := Callable.of Tryz.func30 (by kernel_rfl) rfl
theorem c31 : Callable Tryz.prog 31 := Callable.of Tryz.func31 (by kernel_rfl) rfl
theorem c32 : Callable Tryz.prog 32 := Callable.of Tryz.func32 (by kernel_rfl) rfl
theorem c33 : Callable Tryz.prog 33 := Callable.of Tryz.func33 (by kernel_rfl) rfl
theorem c34 : Callable Tryz.prog 34 := Callable.of Tryz.func34 (by kernel_rfl) rfl
theorem c35 : Callable Tryz.prog 35 := Callable.of Tryz.func35 (by kernel_rfl) rfl
theorem c36 : Callable Tryz.prog 36 := Callable.of Tryz.func36 (by kernel_rfl) rfl
theorem c37 : Callable Tryz.prog 37 := Callable.of Tryz.func37 (by kernel_rfl) rfl
theorem c38 : Callable Tryz.prog 38 := Callable.of Tryz.func38 (by kernel_rfl) rfl
theorem c39 : Callable Tryz.prog 39 := Callable.of Tryz.func39 (by kernel_rfl) rfl
theorem c40 : Callable Tryz.prog 40 := Callable.of Tryz.func40 (by kernel_rfl) rfl
theorem c42 : Callable Tryz.prog 42 := Callable.of Tryz.func42 (by kernel_rfl) rfl
theorem c50 : Callable Tryz.prog 50 := Callable.of Tryz.func50 (by kernel_rfl) rfl
theorem c51 : Callable Tryz.prog 51 := Callable.of Tryz.func51 (by kernel_rfl) rfl
theorem c52 : Callable Tryz.prog 52 := Callable.of Tryz.func52 (by kernel_rfl) rfl
theorem c53 : Callable Tryz.prog 53 := Callable.of Tryz.func53 (by kernel_rfl) rfl
theorem c54 : Callable Tryz.prog 54 := Callable.of Tryz.func54 (by kernel_rfl) rfl
theorem c55 : Callable Tryz.prog 55 := Callable.of Tryz.func55 (by kernel_rfl) rfl
theorem c56 : Callable Tryz.prog 56 := Callable.of Tryz.func56 (by kernel_rfl) rfl
theorem c57 : Callable Tryz.prog 57 := Callable.of Tryz.func57 (by kernel_rfl) rfl
theorem c58 : Callable Tryz.prog 58 := Callable.of Tryz.func58 (by kernel_rfl) rfl
theorem c59 : Callable Tryz.prog 59 := Callable.of Tryz.func59 (by kernel_rfl) rfl
theorem c60 : Callable Tryz.prog 60 := Callable.of Tryz.func60 (by kernel_rfl) rfl
theorem c61 : Callable Tryz.prog 61 := Callable.of Tryz.func61 (by kernel_rfl) rfl
theorem c62 : Callable Tryz.prog 62 := Callable.of Tryz.func62 (by kernel_rfl) rfl
theorem c63 : Callable Tryz.prog 63 := Callable.of Tryz.func63 (by kernel_rfl) rfl
theorem c64 : Callable Tryz.prog 64 := Callable.of Tryz.func64 (by kernel_rfl) rfl
theorem c65 : Callable Tryz.prog 65 := Callable.of Tryz.func65 (by kernel_rfl) rfl
theorem c66 : Callable Tryz.prog 66 := Callable.of Tryz.func66 (by kernel_rfl) rfl
theorem c67 : Callable Tryz.prog 67 := Callable.of Tryz.func67 (by kernel_rfl) rfl
theorem c68 : Callable Tryz.prog 68 := Callable.of Tryz.func68 (by kernel_rfl) rfl
theorem c69 : Callable Tryz.prog 69 := Callable.of Tryz.func69 (by kernel_rfl) rfl
theorem c70 : Callable Tryz.prog 70 := Callable.of Tryz.func70 (by kernel_rfl) rfl
theorem c71 : Callable Tryz.prog 71 := Callable.of Tryz.func71 (by kernel_rfl) rfl
theorem c72 : Callable Tryz.prog 72 := Callable.of Tryz.func72 (by kernel_rfl) rfl
theorem c73 : Callable Tryz.prog 73 := Callable.of Tryz.func73 (by kernel_rfl) rfl
theorem c74 : Callable Tryz.prog 74 := Callable.of Tryz.func74 (by kernel_rfl) rfl
theorem c75 : Callable Tryz.prog 75 := Callable.of Tryz.func75 (by kernel_rfl) rfl
theorem c76 : Callable Tryz.prog 76 := Callable.of Tryz.func76 (by kernel_rfl) rfl
theorem c77 : Callable Tryz.prog 77 := Callable.of Tryz.func77 (by kernel_rfl) rfl
theorem c78 : Callable Tryz.prog 78 := Callable.of Tryz.func78 (by kernel_rfl) rfl
theorem c79 : Callable Tryz.prog 79 := Callable.of Tryz.func79 (by kernel_rfl) rfl
theorem c94 : Callable Tryz.prog 94 := Callable.of Tryz.func94 (by kernel_rfl) rfl
theorem c95 : Callable Tryz.prog 95 := Callable.of Tryz.func95 (by kernel_rfl) rfl
theorem c96 : Callable Tryz.prog 96 := Callable.of Tryz.func96 (by kernel_rfl) rfl
theorem c97 : Callable Tryz.prog 97 := Callable.of Tryz.func97 (by kernel_rfl) rfl
theorem c98 : Callable Tryz.prog 98 := Callable.of Tryz.func98 (by kernel_rfl) rfl
theorem c99 : Callable Tryz.prog 99 := Callable.of Tryz.func99 (by kernel_rfl) rfl
theorem c100 : Callable Tryz.prog 100 := Callable.of Tryz.func100 (by kernel_rfl) rfl
theorem c101 : Callable Tryz.prog 101 := Callable.of Tryz.func101 (by kernel_rfl) rfl
theorem c102 : Callable Tryz.prog 102 := Callable.of Tryz.func102 (by kernel_rfl) rfl
theorem c103 : Callable Tryz.prog 103 := Callable.of Tryz.func103 (by kernel_rfl) rfl
theorem c104 : Callable Tryz.prog 104 := Callable.of Tryz.func104 (by kernel_rfl) rfl
theorem c105 : Callable Tryz.prog 105 := Callable.of Tryz.func105 (by kernel_rfl) rfl
theorem c106 : Callable Tryz.prog 106 := Callable.of Tryz.func106 (by kernel_rfl) rfl
theorem c107 : Callable Tryz.prog 107 := Callable.of Tryz.func107 (by kernel_rfl) rfl
theorem c108 : Callable Tryz.prog 108 := Callable.of Tryz.func108 (by kernel_rfl) rfl
theorem c109 : Callable Tryz.prog 109 := Callable.of Tryz.func109 (by kernel_rfl) rfl
theorem c110 : Callable Tryz.prog 110 := Callable.of Tryz.func110 (by kernel_rfl) rfl
theorem c111 : Callable Tryz.prog 111 := Callable.of Tryz.func111 (by kernel_rfl) rfl
theorem c112 : Callable Tryz.prog 112 := Callable.of Tryz.func112 (by kernel_rfl) rfl
theorem c113 : Callable Tryz.prog 113 := Callable.of Tryz.func113 (by kernel_rfl) rfl
theorem c114 : Callable Tryz.prog 114 := Callable.of Tryz.func114 (by kernel_rfl) rfl
theorem c115 : Callable Tryz.prog 115 := Callable.of Tryz.func115 (by kernel_rfl) rfl
theorem c116 : Callable Tryz.prog 116 := Callable.of Tryz.func116 (by kernel_rfl) rfl
theorem c117 : Callable Tryz.prog 117 := Callable.of Tryz.func117 (by kernel_rfl) rfl
theorem c118 : Callable Tryz.prog 118 := Callable.of Tryz.func118 (by kernel_rfl) rfl
theorem c119 : Callable Tryz.prog 119 := Callable.of Tryz.func119 (by kernel_rfl) rfl
theorem c120 : Callable Tryz.prog 120 := Callable.of Tryz.func120 (by kernel_rfl) rfl
theorem c121 : Callable Tryz.prog 121 := Callable.of Tryz.func121 (by kernel_rfl) rfl
theorem c129 : Callable Tryz.prog 129 := Callable.of Tryz.func129 (by kernel_rfl) rfl
theorem c134 : Callable Tryz.prog 134 := Callable.of Tryz.func134 (by kernel_rfl) rfl
theorem c135 : Callable Tryz.prog 135 := Callable.of Tryz.func135 (by kernel_rfl) rfl
theorem c136 : Callable Tryz.prog 136 := Callable.of Tryz.func136 (by kernel_rfl) rfl
theorem c137 : Callable Tryz.prog 137 := Callable.of Tryz.func137 (by kernel_rfl) rfl
theorem c138 : Callable Tryz.prog 138 := Callable.of Tryz.func138 (by kernel_rfl) rfl
theorem c139 : Callable Tryz.prog 139 := Callable.of Tryz.func139 (by kernel_rfl) rfl
theorem c140 : Callable Tryz.prog 140 := Callable.of Tryz.func140 (by kernel_rfl) rfl
theorem c141 : Callable Tryz.prog 141 := Callable.of Tryz.func141 (by kernel_rfl) rfl
theorem c145 : Callable Tryz.prog 145 := Callable.of Tryz.func145 (by kernel_rfl) rfl
theorem c146 : Callable Tryz.prog 146 := Callable.of Tryz.func146 (by kernel_rfl) rfl
theorem c147 : Callable Tryz.prog 147 := Callable.of Tryz.func147 (by kernel_rfl) rfl
theorem c148 : Callable Tryz.prog 148 := Callable.of Tryz.func148 (by kernel_rfl) rfl
theorem c149 : Callable Tryz.prog 149 := Callable.of Tryz.func149 (by kernel_rfl) rfl
theorem c150 : Callable Tryz.prog 150 := Callable.of Tryz.func150 (by kernel_rfl) rfl
theorem c151 : Callable Tryz.prog 151 := Callable.of Tryz.func151 (by kernel_rfl) rfl
theorem c152 : Callable Tryz.prog 152 := Callable.of Tryz.func152 (by kernel_rfl) rfl
theorem c153 : Callable Tryz.prog 153 := Callable.of Tryz.func153 (by kernel_rfl) rfl
theorem c154 : Callable Tryz.prog 154 := Callable.of Tryz.func154 (by kernel_rfl) rfl
theorem c155 : Callable Tryz.prog 155 := Callable.of Tryz.func155 (by kernel_rfl) rfl
theorem c156 : Callable Tryz.prog 156 := Callable.of Tryz.func156 (by kernel_rfl) rfl
theorem c157 : Callable Tryz.prog 157 := Callable.of Tryz.func157 (by kernel_rfl) rfl
theorem c158 : Callable Tryz.prog 158 := Callable.of Tryz.func158 (by kernel_rfl) rfl
theorem c159 : Callable Tryz.prog 159 := Callable.of Tryz.func159 (by kernel_rfl) rfl
theorem c160 : Callable Tryz.prog 160 := Callable.of Tryz.func160 (by kernel_rfl) rfl
theorem c161 : Callable Tryz.prog 161 := Callable.of Tryz.func161 (by kernel_rfl) rfl
theorem c162 : Callable Tryz.prog 162 := Callable.of Tryz.func162 (by kernel_rfl) rfl
theorem c176 : Callable Tryz.prog 176 := Callable.of Tryz.func176 (by kernel_rfl) rfl
theorem c179 : Callable Tryz.prog 179 := Callable.of Tryz.func179 (by kernel_rfl) rfl
theorem c180 : Callable Tryz.prog 180 := Callable.of Tryz.func180 (by kernel_rfl) rfl
theorem c181 : Callable Tryz.prog 181 := Callable.of Tryz.func181 (by kernel_rfl) rfl
theorem c182 : Callable Tryz.prog 182 := Callable.of Tryz.func182 (by kernel_rfl) rfl
theorem c183 : Callable Tryz.prog 183 := Callable.of Tryz.func183 (by kernel_rfl) rfl
theorem c184 : Callable Tryz.prog 184 := Callable.of Tryz.func184 (by kernel_rfl) rfl
theorem c185 : Callable Tryz.prog 185 := Callable.of Tryz.func185 (by kernel_rfl) rfl
end Go.Proofs.YtfolmcpfdcgliaaGreat.B
