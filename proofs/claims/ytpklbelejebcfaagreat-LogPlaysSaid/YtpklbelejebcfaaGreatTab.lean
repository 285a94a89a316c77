import Derived.Test.YtpklbelejebcfaaGreatTl
import Derived.Test.YtpklbelejebcfaaGreatProg
import Derived.KernelRfl
set_option linter.unusedVariables false
set_option maxRecDepth 100000
/-! The table of types, and what a call enters. Laid by wip/gentab.py. -/
namespace Go.Proofs.YtpklbelejebcfaaGreat.B
open Go Go.Proofs
abbrev e1 : TE := ⟨.func, 1, 8, .nilFunc⟩
theorem u1 : (Tryz.prog.underlying 1).map tdOf = some e1.td := by kernel_rfl
theorem i1 : (Tryz.prog.info? 1).map (fun i => (i.zero, i.size, i.bytes)) = some (some e1.zero, e1.size, e1.bytes) := by kernel_rfl
abbrev e2 : TE := ⟨.int .i64, 1, 8, .int .i64 0⟩
theorem u2 : (Tryz.prog.underlying 2).map tdOf = some e2.td := by kernel_rfl
theorem i2 : (Tryz.prog.info? 2).map (fun i => (i.zero, i.size, i.bytes)) = some (some e2.zero, e2.size, e2.bytes) := by kernel_rfl
abbrev e3 : TE := ⟨.int .i64, 1, 8, .int .i64 0⟩
theorem u3 : (Tryz.prog.underlying 3).map tdOf = some e3.td := by kernel_rfl
theorem i3 : (Tryz.prog.info? 3).map (fun i => (i.zero, i.size, i.bytes)) = some (some e3.zero, e3.size, e3.bytes) := by kernel_rfl
abbrev e4 : TE := ⟨.bool, 1, 1, .bool false⟩
theorem u4 : (Tryz.prog.underlying 4).map tdOf = some e4.td := by kernel_rfl
theorem i4 : (Tryz.prog.info? 4).map (fun i => (i.zero, i.size, i.bytes)) = some (some e4.zero, e4.size, e4.bytes) := by kernel_rfl
abbrev e5 : TE := ⟨.int .u8, 1, 1, .int .u8 0⟩
theorem u5 : (Tryz.prog.underlying 5).map tdOf = some e5.td := by kernel_rfl
theorem i5 : (Tryz.prog.info? 5).map (fun i => (i.zero, i.size, i.bytes)) = some (some e5.zero, e5.size, e5.bytes) := by kernel_rfl
abbrev e9 : TE := ⟨.string, 1, 16, .string ⟨#[]⟩⟩
theorem u9 : (Tryz.prog.underlying 9).map tdOf = some e9.td := by kernel_rfl
theorem i9 : (Tryz.prog.info? 9).map (fun i => (i.zero, i.size, i.bytes)) = some (some e9.zero, e9.size, e9.bytes) := by kernel_rfl
abbrev e12 : TE := ⟨.int .u64, 1, 8, .int .u64 0⟩
theorem u12 : (Tryz.prog.underlying 12).map tdOf = some e12.td := by kernel_rfl
theorem i12 : (Tryz.prog.info? 12).map (fun i => (i.zero, i.size, i.bytes)) = some (some e12.zero, e12.size, e12.bytes) := by kernel_rfl
abbrev e13 : TE := ⟨.struct [(9, 0), (12, 1)], 2, 24, .agg #[.string ⟨#[]⟩, .int .u64 0]⟩
theorem u13 : (Tryz.prog.underlying 13).map tdOf = some e13.td := by kernel_rfl
theorem i13 : (Tryz.prog.info? 13).map (fun i => (i.zero, i.size, i.bytes)) = some (some e13.zero, e13.size, e13.bytes) := by kernel_rfl
abbrev e20 : TE := ⟨.iface, 1, 16, .nilIface⟩
theorem u20 : (Tryz.prog.underlying 20).map tdOf = some e20.td := by kernel_rfl
theorem i20 : (Tryz.prog.info? 20).map (fun i => (i.zero, i.size, i.bytes)) = some (some e20.zero, e20.size, e20.bytes) := by kernel_rfl
abbrev e21 : TE := ⟨.int .i32, 1, 4, .int .i32 0⟩
theorem u21 : (Tryz.prog.underlying 21).map tdOf = some e21.td := by kernel_rfl
theorem i21 : (Tryz.prog.info? 21).map (fun i => (i.zero, i.size, i.bytes)) = some (some e21.zero, e21.size, e21.bytes) := by kernel_rfl
abbrev e22 : TE := ⟨.slice 35, 1, 24, .slice none 0 0⟩
theorem u22 : (Tryz.prog.underlying 22).map tdOf = some e22.td := by kernel_rfl
theorem i22 : (Tryz.prog.info? 22).map (fun i => (i.zero, i.size, i.bytes)) = some (some e22.zero, e22.size, e22.bytes) := by kernel_rfl
abbrev e23 : TE := ⟨.func, 1, 8, .nilFunc⟩
theorem u23 : (Tryz.prog.underlying 23).map tdOf = some e23.td := by kernel_rfl
theorem i23 : (Tryz.prog.info? 23).map (fun i => (i.zero, i.size, i.bytes)) = some (some e23.zero, e23.size, e23.bytes) := by kernel_rfl
abbrev e24 : TE := ⟨.ptr 54, 1, 8, .pointer none⟩
theorem u24 : (Tryz.prog.underlying 24).map tdOf = some e24.td := by kernel_rfl
theorem i24 : (Tryz.prog.info? 24).map (fun i => (i.zero, i.size, i.bytes)) = some (some e24.zero, e24.size, e24.bytes) := by kernel_rfl
abbrev e25 : TE := ⟨.func, 1, 8, .nilFunc⟩
theorem u25 : (Tryz.prog.underlying 25).map tdOf = some e25.td := by kernel_rfl
theorem i25 : (Tryz.prog.info? 25).map (fun i => (i.zero, i.size, i.bytes)) = some (some e25.zero, e25.size, e25.bytes) := by kernel_rfl
abbrev e26 : TE := ⟨.ptr 57, 1, 8, .pointer none⟩
theorem u26 : (Tryz.prog.underlying 26).map tdOf = some e26.td := by kernel_rfl
theorem i26 : (Tryz.prog.info? 26).map (fun i => (i.zero, i.size, i.bytes)) = some (some e26.zero, e26.size, e26.bytes) := by kernel_rfl
abbrev e27 : TE := ⟨.func, 1, 8, .nilFunc⟩
theorem u27 : (Tryz.prog.underlying 27).map tdOf = some e27.td := by kernel_rfl
theorem i27 : (Tryz.prog.info? 27).map (fun i => (i.zero, i.size, i.bytes)) = some (some e27.zero, e27.size, e27.bytes) := by kernel_rfl
abbrev e28 : TE := ⟨.slice 32, 1, 24, .slice none 0 0⟩
theorem u28 : (Tryz.prog.underlying 28).map tdOf = some e28.td := by kernel_rfl
theorem i28 : (Tryz.prog.info? 28).map (fun i => (i.zero, i.size, i.bytes)) = some (some e28.zero, e28.size, e28.bytes) := by kernel_rfl
abbrev e29 : TE := ⟨.struct [(3, 0), (28, 1)], 2, 32, .agg #[.int .i64 0, .slice none 0 0]⟩
theorem u29 : (Tryz.prog.underlying 29).map tdOf = some e29.td := by kernel_rfl
theorem i29 : (Tryz.prog.info? 29).map (fun i => (i.zero, i.size, i.bytes)) = some (some e29.zero, e29.size, e29.bytes) := by kernel_rfl
abbrev e30 : TE := ⟨.struct [(3, 0), (28, 1)], 2, 32, .agg #[.int .i64 0, .slice none 0 0]⟩
theorem u30 : (Tryz.prog.underlying 30).map tdOf = some e30.td := by kernel_rfl
theorem i30 : (Tryz.prog.info? 30).map (fun i => (i.zero, i.size, i.bytes)) = some (some e30.zero, e30.size, e30.bytes) := by kernel_rfl
abbrev e31 : TE := ⟨.struct [(3, 0), (9, 1)], 2, 24, .agg #[.int .i64 0, .string ⟨#[]⟩]⟩
theorem u31 : (Tryz.prog.underlying 31).map tdOf = some e31.td := by kernel_rfl
theorem i31 : (Tryz.prog.info? 31).map (fun i => (i.zero, i.size, i.bytes)) = some (some e31.zero, e31.size, e31.bytes) := by kernel_rfl
abbrev e32 : TE := ⟨.struct [(3, 0), (9, 1)], 2, 24, .agg #[.int .i64 0, .string ⟨#[]⟩]⟩
theorem u32 : (Tryz.prog.underlying 32).map tdOf = some e32.td := by kernel_rfl
theorem i32 : (Tryz.prog.info? 32).map (fun i => (i.zero, i.size, i.bytes)) = some (some e32.zero, e32.size, e32.bytes) := by kernel_rfl
abbrev e33 : TE := ⟨.slice 3, 1, 24, .slice none 0 0⟩
theorem u33 : (Tryz.prog.underlying 33).map tdOf = some e33.td := by kernel_rfl
theorem i33 : (Tryz.prog.info? 33).map (fun i => (i.zero, i.size, i.bytes)) = some (some e33.zero, e33.size, e33.bytes) := by kernel_rfl
abbrev e34 : TE := ⟨.struct [(3, 0), (9, 1), (30, 2), (32, 4), (3, 6), (33, 7)], 8, 112, .agg #[.int .i64 0, .string ⟨#[]⟩, .int .i64 0, .slice none 0 0, .int .i64 0, .string ⟨#[]⟩, .int .i64 0, .slice none 0 0]⟩
theorem u34 : (Tryz.prog.underlying 34).map tdOf = some e34.td := by kernel_rfl
theorem i34 : (Tryz.prog.info? 34).map (fun i => (i.zero, i.size, i.bytes)) = some (some e34.zero, e34.size, e34.bytes) := by kernel_rfl
abbrev e35 : TE := ⟨.struct [(3, 0), (9, 1), (30, 2), (32, 4), (3, 6), (33, 7)], 8, 112, .agg #[.int .i64 0, .string ⟨#[]⟩, .int .i64 0, .slice none 0 0, .int .i64 0, .string ⟨#[]⟩, .int .i64 0, .slice none 0 0]⟩
theorem u35 : (Tryz.prog.underlying 35).map tdOf = some e35.td := by kernel_rfl
theorem i35 : (Tryz.prog.info? 35).map (fun i => (i.zero, i.size, i.bytes)) = some (some e35.zero, e35.size, e35.bytes) := by kernel_rfl
abbrev e36 : TE := ⟨.func, 1, 8, .nilFunc⟩
theorem u36 : (Tryz.prog.underlying 36).map tdOf = some e36.td := by kernel_rfl
theorem i36 : (Tryz.prog.info? 36).map (fun i => (i.zero, i.size, i.bytes)) = some (some e36.zero, e36.size, e36.bytes) := by kernel_rfl
abbrev e37 : TE := ⟨.int .i64, 1, 8, .int .i64 0⟩
theorem u37 : (Tryz.prog.underlying 37).map tdOf = some e37.td := by kernel_rfl
theorem i37 : (Tryz.prog.info? 37).map (fun i => (i.zero, i.size, i.bytes)) = some (some e37.zero, e37.size, e37.bytes) := by kernel_rfl
abbrev e38 : TE := ⟨.func, 1, 8, .nilFunc⟩
theorem u38 : (Tryz.prog.underlying 38).map tdOf = some e38.td := by kernel_rfl
theorem i38 : (Tryz.prog.info? 38).map (fun i => (i.zero, i.size, i.bytes)) = some (some e38.zero, e38.size, e38.bytes) := by kernel_rfl
abbrev e39 : TE := ⟨.func, 1, 8, .nilFunc⟩
theorem u39 : (Tryz.prog.underlying 39).map tdOf = some e39.td := by kernel_rfl
theorem i39 : (Tryz.prog.info? 39).map (fun i => (i.zero, i.size, i.bytes)) = some (some e39.zero, e39.size, e39.bytes) := by kernel_rfl
abbrev e40 : TE := ⟨.func, 1, 8, .nilFunc⟩
theorem u40 : (Tryz.prog.underlying 40).map tdOf = some e40.td := by kernel_rfl
theorem i40 : (Tryz.prog.info? 40).map (fun i => (i.zero, i.size, i.bytes)) = some (some e40.zero, e40.size, e40.bytes) := by kernel_rfl
abbrev e41 : TE := ⟨.func, 1, 8, .nilFunc⟩
theorem u41 : (Tryz.prog.underlying 41).map tdOf = some e41.td := by kernel_rfl
theorem i41 : (Tryz.prog.info? 41).map (fun i => (i.zero, i.size, i.bytes)) = some (some e41.zero, e41.size, e41.bytes) := by kernel_rfl
abbrev e42 : TE := ⟨.func, 1, 8, .nilFunc⟩
theorem u42 : (Tryz.prog.underlying 42).map tdOf = some e42.td := by kernel_rfl
theorem i42 : (Tryz.prog.info? 42).map (fun i => (i.zero, i.size, i.bytes)) = some (some e42.zero, e42.size, e42.bytes) := by kernel_rfl
abbrev e43 : TE := ⟨.func, 1, 8, .nilFunc⟩
theorem u43 : (Tryz.prog.underlying 43).map tdOf = some e43.td := by kernel_rfl
theorem i43 : (Tryz.prog.info? 43).map (fun i => (i.zero, i.size, i.bytes)) = some (some e43.zero, e43.size, e43.bytes) := by kernel_rfl
abbrev e45 : TE := ⟨.func, 1, 8, .nilFunc⟩
theorem u45 : (Tryz.prog.underlying 45).map tdOf = some e45.td := by kernel_rfl
theorem i45 : (Tryz.prog.info? 45).map (fun i => (i.zero, i.size, i.bytes)) = some (some e45.zero, e45.size, e45.bytes) := by kernel_rfl
abbrev e47 : TE := ⟨.func, 1, 8, .nilFunc⟩
theorem u47 : (Tryz.prog.underlying 47).map tdOf = some e47.td := by kernel_rfl
theorem i47 : (Tryz.prog.info? 47).map (fun i => (i.zero, i.size, i.bytes)) = some (some e47.zero, e47.size, e47.bytes) := by kernel_rfl
abbrev e48 : TE := ⟨.func, 1, 8, .nilFunc⟩
theorem u48 : (Tryz.prog.underlying 48).map tdOf = some e48.td := by kernel_rfl
theorem i48 : (Tryz.prog.info? 48).map (fun i => (i.zero, i.size, i.bytes)) = some (some e48.zero, e48.size, e48.bytes) := by kernel_rfl
abbrev e49 : TE := ⟨.func, 1, 8, .nilFunc⟩
theorem u49 : (Tryz.prog.underlying 49).map tdOf = some e49.td := by kernel_rfl
theorem i49 : (Tryz.prog.info? 49).map (fun i => (i.zero, i.size, i.bytes)) = some (some e49.zero, e49.size, e49.bytes) := by kernel_rfl
abbrev e50 : TE := ⟨.func, 1, 8, .nilFunc⟩
theorem u50 : (Tryz.prog.underlying 50).map tdOf = some e50.td := by kernel_rfl
theorem i50 : (Tryz.prog.info? 50).map (fun i => (i.zero, i.size, i.bytes)) = some (some e50.zero, e50.size, e50.bytes) := by kernel_rfl
abbrev e51 : TE := ⟨.func, 1, 8, .nilFunc⟩
theorem u51 : (Tryz.prog.underlying 51).map tdOf = some e51.td := by kernel_rfl
theorem i51 : (Tryz.prog.info? 51).map (fun i => (i.zero, i.size, i.bytes)) = some (some e51.zero, e51.size, e51.bytes) := by kernel_rfl
abbrev e52 : TE := ⟨.map 9 76, 1, 8, .map none⟩
theorem u52 : (Tryz.prog.underlying 52).map tdOf = some e52.td := by kernel_rfl
theorem i52 : (Tryz.prog.info? 52).map (fun i => (i.zero, i.size, i.bytes)) = some (some e52.zero, e52.size, e52.bytes) := by kernel_rfl
abbrev e53 : TE := ⟨.struct [(52, 0), (3, 1), (3, 2), (3, 3), (4, 4)], 5, 40, .agg #[.map none, .int .i64 0, .int .i64 0, .int .i64 0, .bool false]⟩
theorem u53 : (Tryz.prog.underlying 53).map tdOf = some e53.td := by kernel_rfl
theorem i53 : (Tryz.prog.info? 53).map (fun i => (i.zero, i.size, i.bytes)) = some (some e53.zero, e53.size, e53.bytes) := by kernel_rfl
abbrev e54 : TE := ⟨.struct [(52, 0), (3, 1), (3, 2), (3, 3), (4, 4)], 5, 40, .agg #[.map none, .int .i64 0, .int .i64 0, .int .i64 0, .bool false]⟩
theorem u54 : (Tryz.prog.underlying 54).map tdOf = some e54.td := by kernel_rfl
theorem i54 : (Tryz.prog.info? 54).map (fun i => (i.zero, i.size, i.bytes)) = some (some e54.zero, e54.size, e54.bytes) := by kernel_rfl
abbrev e55 : TE := ⟨.slice 78, 1, 24, .slice none 0 0⟩
theorem u55 : (Tryz.prog.underlying 55).map tdOf = some e55.td := by kernel_rfl
theorem i55 : (Tryz.prog.info? 55).map (fun i => (i.zero, i.size, i.bytes)) = some (some e55.zero, e55.size, e55.bytes) := by kernel_rfl
abbrev e56 : TE := ⟨.struct [(3, 0), (55, 1), (3, 2), (4, 3)], 4, 48, .agg #[.int .i64 0, .slice none 0 0, .int .i64 0, .bool false]⟩
theorem u56 : (Tryz.prog.underlying 56).map tdOf = some e56.td := by kernel_rfl
theorem i56 : (Tryz.prog.info? 56).map (fun i => (i.zero, i.size, i.bytes)) = some (some e56.zero, e56.size, e56.bytes) := by kernel_rfl
abbrev e57 : TE := ⟨.struct [(3, 0), (55, 1), (3, 2), (4, 3)], 4, 48, .agg #[.int .i64 0, .slice none 0 0, .int .i64 0, .bool false]⟩
theorem u57 : (Tryz.prog.underlying 57).map tdOf = some e57.td := by kernel_rfl
theorem i57 : (Tryz.prog.info? 57).map (fun i => (i.zero, i.size, i.bytes)) = some (some e57.zero, e57.size, e57.bytes) := by kernel_rfl
abbrev e59 : TE := ⟨.func, 1, 8, .nilFunc⟩
theorem u59 : (Tryz.prog.underlying 59).map tdOf = some e59.td := by kernel_rfl
theorem i59 : (Tryz.prog.info? 59).map (fun i => (i.zero, i.size, i.bytes)) = some (some e59.zero, e59.size, e59.bytes) := by kernel_rfl
abbrev e60 : TE := ⟨.func, 1, 8, .nilFunc⟩
theorem u60 : (Tryz.prog.underlying 60).map tdOf = some e60.td := by kernel_rfl
theorem i60 : (Tryz.prog.info? 60).map (fun i => (i.zero, i.size, i.bytes)) = some (some e60.zero, e60.size, e60.bytes) := by kernel_rfl
abbrev e62 : TE := ⟨.func, 1, 8, .nilFunc⟩
theorem u62 : (Tryz.prog.underlying 62).map tdOf = some e62.td := by kernel_rfl
theorem i62 : (Tryz.prog.info? 62).map (fun i => (i.zero, i.size, i.bytes)) = some (some e62.zero, e62.size, e62.bytes) := by kernel_rfl
abbrev e63 : TE := ⟨.func, 1, 8, .nilFunc⟩
theorem u63 : (Tryz.prog.underlying 63).map tdOf = some e63.td := by kernel_rfl
theorem i63 : (Tryz.prog.info? 63).map (fun i => (i.zero, i.size, i.bytes)) = some (some e63.zero, e63.size, e63.bytes) := by kernel_rfl
abbrev e64 : TE := ⟨.func, 1, 8, .nilFunc⟩
theorem u64 : (Tryz.prog.underlying 64).map tdOf = some e64.td := by kernel_rfl
theorem i64 : (Tryz.prog.info? 64).map (fun i => (i.zero, i.size, i.bytes)) = some (some e64.zero, e64.size, e64.bytes) := by kernel_rfl
abbrev e65 : TE := ⟨.func, 1, 8, .nilFunc⟩
theorem u65 : (Tryz.prog.underlying 65).map tdOf = some e65.td := by kernel_rfl
theorem i65 : (Tryz.prog.info? 65).map (fun i => (i.zero, i.size, i.bytes)) = some (some e65.zero, e65.size, e65.bytes) := by kernel_rfl
abbrev e66 : TE := ⟨.func, 1, 8, .nilFunc⟩
theorem u66 : (Tryz.prog.underlying 66).map tdOf = some e66.td := by kernel_rfl
theorem i66 : (Tryz.prog.info? 66).map (fun i => (i.zero, i.size, i.bytes)) = some (some e66.zero, e66.size, e66.bytes) := by kernel_rfl
abbrev e67 : TE := ⟨.func, 1, 8, .nilFunc⟩
theorem u67 : (Tryz.prog.underlying 67).map tdOf = some e67.td := by kernel_rfl
theorem i67 : (Tryz.prog.info? 67).map (fun i => (i.zero, i.size, i.bytes)) = some (some e67.zero, e67.size, e67.bytes) := by kernel_rfl
abbrev e69 : TE := ⟨.func, 1, 8, .nilFunc⟩
theorem u69 : (Tryz.prog.underlying 69).map tdOf = some e69.td := by kernel_rfl
theorem i69 : (Tryz.prog.info? 69).map (fun i => (i.zero, i.size, i.bytes)) = some (some e69.zero, e69.size, e69.bytes) := by kernel_rfl
abbrev e70 : TE := ⟨.func, 1, 8, .nilFunc⟩
theorem u70 : (Tryz.prog.underlying 70).map tdOf = some e70.td := by kernel_rfl
theorem i70 : (Tryz.prog.info? 70).map (fun i => (i.zero, i.size, i.bytes)) = some (some e70.zero, e70.size, e70.bytes) := by kernel_rfl
abbrev e71 : TE := ⟨.func, 1, 8, .nilFunc⟩
theorem u71 : (Tryz.prog.underlying 71).map tdOf = some e71.td := by kernel_rfl
theorem i71 : (Tryz.prog.info? 71).map (fun i => (i.zero, i.size, i.bytes)) = some (some e71.zero, e71.size, e71.bytes) := by kernel_rfl
abbrev e72 : TE := ⟨.func, 1, 8, .nilFunc⟩
theorem u72 : (Tryz.prog.underlying 72).map tdOf = some e72.td := by kernel_rfl
theorem i72 : (Tryz.prog.info? 72).map (fun i => (i.zero, i.size, i.bytes)) = some (some e72.zero, e72.size, e72.bytes) := by kernel_rfl
abbrev e73 : TE := ⟨.slice 9, 1, 24, .slice none 0 0⟩
theorem u73 : (Tryz.prog.underlying 73).map tdOf = some e73.td := by kernel_rfl
theorem i73 : (Tryz.prog.info? 73).map (fun i => (i.zero, i.size, i.bytes)) = some (some e73.zero, e73.size, e73.bytes) := by kernel_rfl
abbrev e74 : TE := ⟨.func, 1, 8, .nilFunc⟩
theorem u74 : (Tryz.prog.underlying 74).map tdOf = some e74.td := by kernel_rfl
theorem i74 : (Tryz.prog.info? 74).map (fun i => (i.zero, i.size, i.bytes)) = some (some e74.zero, e74.size, e74.bytes) := by kernel_rfl
abbrev e75 : TE := ⟨.struct [(9, 0), (3, 1)], 2, 24, .agg #[.string ⟨#[]⟩, .int .i64 0]⟩
theorem u75 : (Tryz.prog.underlying 75).map tdOf = some e75.td := by kernel_rfl
theorem i75 : (Tryz.prog.info? 75).map (fun i => (i.zero, i.size, i.bytes)) = some (some e75.zero, e75.size, e75.bytes) := by kernel_rfl
abbrev e76 : TE := ⟨.struct [(9, 0), (3, 1)], 2, 24, .agg #[.string ⟨#[]⟩, .int .i64 0]⟩
theorem u76 : (Tryz.prog.underlying 76).map tdOf = some e76.td := by kernel_rfl
theorem i76 : (Tryz.prog.info? 76).map (fun i => (i.zero, i.size, i.bytes)) = some (some e76.zero, e76.size, e76.bytes) := by kernel_rfl
abbrev e77 : TE := ⟨.struct [(9, 0), (9, 1), (3, 2)], 3, 40, .agg #[.string ⟨#[]⟩, .string ⟨#[]⟩, .int .i64 0]⟩
theorem u77 : (Tryz.prog.underlying 77).map tdOf = some e77.td := by kernel_rfl
theorem i77 : (Tryz.prog.info? 77).map (fun i => (i.zero, i.size, i.bytes)) = some (some e77.zero, e77.size, e77.bytes) := by kernel_rfl
abbrev e78 : TE := ⟨.struct [(9, 0), (9, 1), (3, 2)], 3, 40, .agg #[.string ⟨#[]⟩, .string ⟨#[]⟩, .int .i64 0]⟩
theorem u78 : (Tryz.prog.underlying 78).map tdOf = some e78.td := by kernel_rfl
theorem i78 : (Tryz.prog.info? 78).map (fun i => (i.zero, i.size, i.bytes)) = some (some e78.zero, e78.size, e78.bytes) := by kernel_rfl
abbrev e79 : TE := ⟨.func, 1, 8, .nilFunc⟩
theorem u79 : (Tryz.prog.underlying 79).map tdOf = some e79.td := by kernel_rfl
theorem i79 : (Tryz.prog.info? 79).map (fun i => (i.zero, i.size, i.bytes)) = some (some e79.zero, e79.size, e79.bytes) := by kernel_rfl
abbrev e81 : TE := ⟨.func, 1, 8, .nilFunc⟩
theorem u81 : (Tryz.prog.underlying 81).map tdOf = some e81.td := by kernel_rfl
theorem i81 : (Tryz.prog.info? 81).map (fun i => (i.zero, i.size, i.bytes)) = some (some e81.zero, e81.size, e81.bytes) := by kernel_rfl
abbrev e82 : TE := ⟨.struct [], 0, 0, .agg #[]⟩
theorem u82 : (Tryz.prog.underlying 82).map tdOf = some e82.td := by kernel_rfl
theorem i82 : (Tryz.prog.info? 82).map (fun i => (i.zero, i.size, i.bytes)) = some (some e82.zero, e82.size, e82.bytes) := by kernel_rfl
abbrev e83 : TE := ⟨.struct [], 0, 0, .agg #[]⟩
theorem u83 : (Tryz.prog.underlying 83).map tdOf = some e83.td := by kernel_rfl
theorem i83 : (Tryz.prog.info? 83).map (fun i => (i.zero, i.size, i.bytes)) = some (some e83.zero, e83.size, e83.bytes) := by kernel_rfl
abbrev e85 : TE := ⟨.func, 1, 8, .nilFunc⟩
theorem u85 : (Tryz.prog.underlying 85).map tdOf = some e85.td := by kernel_rfl
theorem i85 : (Tryz.prog.info? 85).map (fun i => (i.zero, i.size, i.bytes)) = some (some e85.zero, e85.size, e85.bytes) := by kernel_rfl
abbrev e86 : TE := ⟨.func, 1, 8, .nilFunc⟩
theorem u86 : (Tryz.prog.underlying 86).map tdOf = some e86.td := by kernel_rfl
theorem i86 : (Tryz.prog.info? 86).map (fun i => (i.zero, i.size, i.bytes)) = some (some e86.zero, e86.size, e86.bytes) := by kernel_rfl
abbrev e87 : TE := ⟨.func, 1, 8, .nilFunc⟩
theorem u87 : (Tryz.prog.underlying 87).map tdOf = some e87.td := by kernel_rfl
theorem i87 : (Tryz.prog.info? 87).map (fun i => (i.zero, i.size, i.bytes)) = some (some e87.zero, e87.size, e87.bytes) := by kernel_rfl
abbrev e88 : TE := ⟨.ptr 91, 1, 8, .pointer none⟩
theorem u88 : (Tryz.prog.underlying 88).map tdOf = some e88.td := by kernel_rfl
theorem i88 : (Tryz.prog.info? 88).map (fun i => (i.zero, i.size, i.bytes)) = some (some e88.zero, e88.size, e88.bytes) := by kernel_rfl
abbrev e89 : TE := ⟨.slice 5, 1, 24, .slice none 0 0⟩
theorem u89 : (Tryz.prog.underlying 89).map tdOf = some e89.td := by kernel_rfl
theorem i89 : (Tryz.prog.info? 89).map (fun i => (i.zero, i.size, i.bytes)) = some (some e89.zero, e89.size, e89.bytes) := by kernel_rfl
abbrev e90 : TE := ⟨.struct [(88, 0), (89, 1)], 2, 32, .agg #[.pointer none, .slice none 0 0]⟩
theorem u90 : (Tryz.prog.underlying 90).map tdOf = some e90.td := by kernel_rfl
theorem i90 : (Tryz.prog.info? 90).map (fun i => (i.zero, i.size, i.bytes)) = some (some e90.zero, e90.size, e90.bytes) := by kernel_rfl
abbrev e91 : TE := ⟨.struct [(88, 0), (89, 1)], 2, 32, .agg #[.pointer none, .slice none 0 0]⟩
theorem u91 : (Tryz.prog.underlying 91).map tdOf = some e91.td := by kernel_rfl
theorem i91 : (Tryz.prog.info? 91).map (fun i => (i.zero, i.size, i.bytes)) = some (some e91.zero, e91.size, e91.bytes) := by kernel_rfl
abbrev e92 : TE := ⟨.iface, 1, 16, .nilIface⟩
theorem u92 : (Tryz.prog.underlying 92).map tdOf = some e92.td := by kernel_rfl
theorem i92 : (Tryz.prog.info? 92).map (fun i => (i.zero, i.size, i.bytes)) = some (some e92.zero, e92.size, e92.bytes) := by kernel_rfl
abbrev e93 : TE := ⟨.iface, 1, 16, .nilIface⟩
theorem u93 : (Tryz.prog.underlying 93).map tdOf = some e93.td := by kernel_rfl
theorem i93 : (Tryz.prog.info? 93).map (fun i => (i.zero, i.size, i.bytes)) = some (some e93.zero, e93.size, e93.bytes) := by kernel_rfl
abbrev e95 : TE := ⟨.func, 1, 8, .nilFunc⟩
theorem u95 : (Tryz.prog.underlying 95).map tdOf = some e95.td := by kernel_rfl
theorem i95 : (Tryz.prog.info? 95).map (fun i => (i.zero, i.size, i.bytes)) = some (some e95.zero, e95.size, e95.bytes) := by kernel_rfl
abbrev e96 : TE := ⟨.func, 1, 8, .nilFunc⟩
theorem u96 : (Tryz.prog.underlying 96).map tdOf = some e96.td := by kernel_rfl
theorem i96 : (Tryz.prog.info? 96).map (fun i => (i.zero, i.size, i.bytes)) = some (some e96.zero, e96.size, e96.bytes) := by kernel_rfl
abbrev e97 : TE := ⟨.func, 1, 8, .nilFunc⟩
theorem u97 : (Tryz.prog.underlying 97).map tdOf = some e97.td := by kernel_rfl
theorem i97 : (Tryz.prog.info? 97).map (fun i => (i.zero, i.size, i.bytes)) = some (some e97.zero, e97.size, e97.bytes) := by kernel_rfl
abbrev e98 : TE := ⟨.slice 97, 1, 24, .slice none 0 0⟩
theorem u98 : (Tryz.prog.underlying 98).map tdOf = some e98.td := by kernel_rfl
theorem i98 : (Tryz.prog.info? 98).map (fun i => (i.zero, i.size, i.bytes)) = some (some e98.zero, e98.size, e98.bytes) := by kernel_rfl
abbrev e99 : TE := ⟨.func, 1, 8, .nilFunc⟩
theorem u99 : (Tryz.prog.underlying 99).map tdOf = some e99.td := by kernel_rfl
theorem i99 : (Tryz.prog.info? 99).map (fun i => (i.zero, i.size, i.bytes)) = some (some e99.zero, e99.size, e99.bytes) := by kernel_rfl
abbrev e100 : TE := ⟨.func, 1, 8, .nilFunc⟩
theorem u100 : (Tryz.prog.underlying 100).map tdOf = some e100.td := by kernel_rfl
theorem i100 : (Tryz.prog.info? 100).map (fun i => (i.zero, i.size, i.bytes)) = some (some e100.zero, e100.size, e100.bytes) := by kernel_rfl
abbrev e102 : TE := ⟨.func, 1, 8, .nilFunc⟩
theorem u102 : (Tryz.prog.underlying 102).map tdOf = some e102.td := by kernel_rfl
theorem i102 : (Tryz.prog.info? 102).map (fun i => (i.zero, i.size, i.bytes)) = some (some e102.zero, e102.size, e102.bytes) := by kernel_rfl
abbrev e103 : TE := ⟨.func, 1, 8, .nilFunc⟩
theorem u103 : (Tryz.prog.underlying 103).map tdOf = some e103.td := by kernel_rfl
theorem i103 : (Tryz.prog.info? 103).map (fun i => (i.zero, i.size, i.bytes)) = some (some e103.zero, e103.size, e103.bytes) := by kernel_rfl
abbrev e104 : TE := ⟨.func, 1, 8, .nilFunc⟩
theorem u104 : (Tryz.prog.underlying 104).map tdOf = some e104.td := by kernel_rfl
theorem i104 : (Tryz.prog.info? 104).map (fun i => (i.zero, i.size, i.bytes)) = some (some e104.zero, e104.size, e104.bytes) := by kernel_rfl
abbrev e105 : TE := ⟨.func, 1, 8, .nilFunc⟩
theorem u105 : (Tryz.prog.underlying 105).map tdOf = some e105.td := by kernel_rfl
theorem i105 : (Tryz.prog.info? 105).map (fun i => (i.zero, i.size, i.bytes)) = some (some e105.zero, e105.size, e105.bytes) := by kernel_rfl
abbrev e106 : TE := ⟨.func, 1, 8, .nilFunc⟩
theorem u106 : (Tryz.prog.underlying 106).map tdOf = some e106.td := by kernel_rfl
theorem i106 : (Tryz.prog.info? 106).map (fun i => (i.zero, i.size, i.bytes)) = some (some e106.zero, e106.size, e106.bytes) := by kernel_rfl
abbrev e107 : TE := ⟨.func, 1, 8, .nilFunc⟩
theorem u107 : (Tryz.prog.underlying 107).map tdOf = some e107.td := by kernel_rfl
theorem i107 : (Tryz.prog.info? 107).map (fun i => (i.zero, i.size, i.bytes)) = some (some e107.zero, e107.size, e107.bytes) := by kernel_rfl
abbrev e110 : TE := ⟨.func, 1, 8, .nilFunc⟩
theorem u110 : (Tryz.prog.underlying 110).map tdOf = some e110.td := by kernel_rfl
theorem i110 : (Tryz.prog.info? 110).map (fun i => (i.zero, i.size, i.bytes)) = some (some e110.zero, e110.size, e110.bytes) := by kernel_rfl
abbrev e112 : TE := ⟨.func, 1, 8, .nilFunc⟩
theorem u112 : (Tryz.prog.underlying 112).map tdOf = some e112.td := by kernel_rfl
theorem i112 : (Tryz.prog.info? 112).map (fun i => (i.zero, i.size, i.bytes)) = some (some e112.zero, e112.size, e112.bytes) := by kernel_rfl
abbrev e114 : TE := ⟨.func, 1, 8, .nilFunc⟩
theorem u114 : (Tryz.prog.underlying 114).map tdOf = some e114.td := by kernel_rfl
theorem i114 : (Tryz.prog.info? 114).map (fun i => (i.zero, i.size, i.bytes)) = some (some e114.zero, e114.size, e114.bytes) := by kernel_rfl
abbrev e116 : TE := ⟨.func, 1, 8, .nilFunc⟩
theorem u116 : (Tryz.prog.underlying 116).map tdOf = some e116.td := by kernel_rfl
theorem i116 : (Tryz.prog.info? 116).map (fun i => (i.zero, i.size, i.bytes)) = some (some e116.zero, e116.size, e116.bytes) := by kernel_rfl
abbrev e117 : TE := ⟨.ptr 5, 1, 8, .pointer none⟩
theorem u117 : (Tryz.prog.underlying 117).map tdOf = some e117.td := by kernel_rfl
theorem i117 : (Tryz.prog.info? 117).map (fun i => (i.zero, i.size, i.bytes)) = some (some e117.zero, e117.size, e117.bytes) := by kernel_rfl
abbrev e118 : TE := ⟨.func, 1, 8, .nilFunc⟩
theorem u118 : (Tryz.prog.underlying 118).map tdOf = some e118.td := by kernel_rfl
theorem i118 : (Tryz.prog.info? 118).map (fun i => (i.zero, i.size, i.bytes)) = some (some e118.zero, e118.size, e118.bytes) := by kernel_rfl
abbrev e119 : TE := ⟨.int .u32, 1, 4, .int .u32 0⟩
theorem u119 : (Tryz.prog.underlying 119).map tdOf = some e119.td := by kernel_rfl
theorem i119 : (Tryz.prog.info? 119).map (fun i => (i.zero, i.size, i.bytes)) = some (some e119.zero, e119.size, e119.bytes) := by kernel_rfl
abbrev e120 : TE := ⟨.func, 1, 8, .nilFunc⟩
theorem u120 : (Tryz.prog.underlying 120).map tdOf = some e120.td := by kernel_rfl
theorem i120 : (Tryz.prog.info? 120).map (fun i => (i.zero, i.size, i.bytes)) = some (some e120.zero, e120.size, e120.bytes) := by kernel_rfl
abbrev e121 : TE := ⟨.int .u64, 1, 8, .int .u64 0⟩
theorem u121 : (Tryz.prog.underlying 121).map tdOf = some e121.td := by kernel_rfl
theorem i121 : (Tryz.prog.info? 121).map (fun i => (i.zero, i.size, i.bytes)) = some (some e121.zero, e121.size, e121.bytes) := by kernel_rfl
abbrev e122 : TE := ⟨.int .u64, 1, 8, .int .u64 0⟩
theorem u122 : (Tryz.prog.underlying 122).map tdOf = some e122.td := by kernel_rfl
theorem i122 : (Tryz.prog.info? 122).map (fun i => (i.zero, i.size, i.bytes)) = some (some e122.zero, e122.size, e122.bytes) := by kernel_rfl
abbrev e123 : TE := ⟨.func, 1, 8, .nilFunc⟩
theorem u123 : (Tryz.prog.underlying 123).map tdOf = some e123.td := by kernel_rfl
theorem i123 : (Tryz.prog.info? 123).map (fun i => (i.zero, i.size, i.bytes)) = some (some e123.zero, e123.size, e123.bytes) := by kernel_rfl
abbrev e125 : TE := ⟨.func, 1, 8, .nilFunc⟩
theorem u125 : (Tryz.prog.underlying 125).map tdOf = some e125.td := by kernel_rfl
theorem i125 : (Tryz.prog.info? 125).map (fun i => (i.zero, i.size, i.bytes)) = some (some e125.zero, e125.size, e125.bytes) := by kernel_rfl
abbrev e126 : TE := ⟨.other, 1, 8, .pointer none⟩
theorem u126 : (Tryz.prog.underlying 126).map tdOf = some e126.td := by kernel_rfl
theorem i126 : (Tryz.prog.info? 126).map (fun i => (i.zero, i.size, i.bytes)) = some (some e126.zero, e126.size, e126.bytes) := by kernel_rfl
abbrev e127 : TE := ⟨.func, 1, 8, .nilFunc⟩
theorem u127 : (Tryz.prog.underlying 127).map tdOf = some e127.td := by kernel_rfl
theorem i127 : (Tryz.prog.info? 127).map (fun i => (i.zero, i.size, i.bytes)) = some (some e127.zero, e127.size, e127.bytes) := by kernel_rfl
abbrev e128 : TE := ⟨.arr 4 5, 4, 4, .agg #[.int .u8 0, .int .u8 0, .int .u8 0, .int .u8 0]⟩
theorem u128 : (Tryz.prog.underlying 128).map tdOf = some e128.td := by kernel_rfl
theorem i128 : (Tryz.prog.info? 128).map (fun i => (i.zero, i.size, i.bytes)) = some (some e128.zero, e128.size, e128.bytes) := by kernel_rfl
abbrev e129 : TE := ⟨.func, 1, 8, .nilFunc⟩
theorem u129 : (Tryz.prog.underlying 129).map tdOf = some e129.td := by kernel_rfl
theorem i129 : (Tryz.prog.info? 129).map (fun i => (i.zero, i.size, i.bytes)) = some (some e129.zero, e129.size, e129.bytes) := by kernel_rfl
abbrev e130 : TE := ⟨.func, 1, 8, .nilFunc⟩
theorem u130 : (Tryz.prog.underlying 130).map tdOf = some e130.td := by kernel_rfl
theorem i130 : (Tryz.prog.info? 130).map (fun i => (i.zero, i.size, i.bytes)) = some (some e130.zero, e130.size, e130.bytes) := by kernel_rfl
abbrev e131 : TE := ⟨.func, 1, 8, .nilFunc⟩
theorem u131 : (Tryz.prog.underlying 131).map tdOf = some e131.td := by kernel_rfl
theorem i131 : (Tryz.prog.info? 131).map (fun i => (i.zero, i.size, i.bytes)) = some (some e131.zero, e131.size, e131.bytes) := by kernel_rfl
abbrev e132 : TE := ⟨.func, 1, 8, .nilFunc⟩
theorem u132 : (Tryz.prog.underlying 132).map tdOf = some e132.td := by kernel_rfl
theorem i132 : (Tryz.prog.info? 132).map (fun i => (i.zero, i.size, i.bytes)) = some (some e132.zero, e132.size, e132.bytes) := by kernel_rfl
abbrev e133 : TE := ⟨.int .i64, 1, 8, .int .i64 0⟩
theorem u133 : (Tryz.prog.underlying 133).map tdOf = some e133.td := by kernel_rfl
theorem i133 : (Tryz.prog.info? 133).map (fun i => (i.zero, i.size, i.bytes)) = some (some e133.zero, e133.size, e133.bytes) := by kernel_rfl
abbrev e135 : TE := ⟨.func, 1, 8, .nilFunc⟩
theorem u135 : (Tryz.prog.underlying 135).map tdOf = some e135.td := by kernel_rfl
theorem i135 : (Tryz.prog.info? 135).map (fun i => (i.zero, i.size, i.bytes)) = some (some e135.zero, e135.size, e135.bytes) := by kernel_rfl
abbrev e136 : TE := ⟨.func, 1, 8, .nilFunc⟩
theorem u136 : (Tryz.prog.underlying 136).map tdOf = some e136.td := by kernel_rfl
theorem i136 : (Tryz.prog.info? 136).map (fun i => (i.zero, i.size, i.bytes)) = some (some e136.zero, e136.size, e136.bytes) := by kernel_rfl
abbrev e137 : TE := ⟨.func, 1, 8, .nilFunc⟩
theorem u137 : (Tryz.prog.underlying 137).map tdOf = some e137.td := by kernel_rfl
theorem i137 : (Tryz.prog.info? 137).map (fun i => (i.zero, i.size, i.bytes)) = some (some e137.zero, e137.size, e137.bytes) := by kernel_rfl
abbrev e138 : TE := ⟨.func, 1, 8, .nilFunc⟩
theorem u138 : (Tryz.prog.underlying 138).map tdOf = some e138.td := by kernel_rfl
theorem i138 : (Tryz.prog.info? 138).map (fun i => (i.zero, i.size, i.bytes)) = some (some e138.zero, e138.size, e138.bytes) := by kernel_rfl
abbrev e140 : TE := ⟨.func, 1, 8, .nilFunc⟩
theorem u140 : (Tryz.prog.underlying 140).map tdOf = some e140.td := by kernel_rfl
theorem i140 : (Tryz.prog.info? 140).map (fun i => (i.zero, i.size, i.bytes)) = some (some e140.zero, e140.size, e140.bytes) := by kernel_rfl
abbrev e141 : TE := ⟨.func, 1, 8, .nilFunc⟩
theorem u141 : (Tryz.prog.underlying 141).map tdOf = some e141.td := by kernel_rfl
theorem i141 : (Tryz.prog.info? 141).map (fun i => (i.zero, i.size, i.bytes)) = some (some e141.zero, e141.size, e141.bytes) := by kernel_rfl
abbrev e142 : TE := ⟨.func, 1, 8, .nilFunc⟩
theorem u142 : (Tryz.prog.underlying 142).map tdOf = some e142.td := by kernel_rfl
theorem i142 : (Tryz.prog.info? 142).map (fun i => (i.zero, i.size, i.bytes)) = some (some e142.zero, e142.size, e142.bytes) := by kernel_rfl
abbrev e143 : TE := ⟨.int .u64, 1, 8, .int .u64 0⟩
theorem u143 : (Tryz.prog.underlying 143).map tdOf = some e143.td := by kernel_rfl
theorem i143 : (Tryz.prog.info? 143).map (fun i => (i.zero, i.size, i.bytes)) = some (some e143.zero, e143.size, e143.bytes) := by kernel_rfl
abbrev e144 : TE := ⟨.func, 1, 8, .nilFunc⟩
theorem u144 : (Tryz.prog.underlying 144).map tdOf = some e144.td := by kernel_rfl
theorem i144 : (Tryz.prog.info? 144).map (fun i => (i.zero, i.size, i.bytes)) = some (some e144.zero, e144.size, e144.bytes) := by kernel_rfl
abbrev e145 : TE := ⟨.func, 1, 8, .nilFunc⟩
theorem u145 : (Tryz.prog.underlying 145).map tdOf = some e145.td := by kernel_rfl
theorem i145 : (Tryz.prog.info? 145).map (fun i => (i.zero, i.size, i.bytes)) = some (some e145.zero, e145.size, e145.bytes) := by kernel_rfl
abbrev e146 : TE := ⟨.func, 1, 8, .nilFunc⟩
theorem u146 : (Tryz.prog.underlying 146).map tdOf = some e146.td := by kernel_rfl
theorem i146 : (Tryz.prog.info? 146).map (fun i => (i.zero, i.size, i.bytes)) = some (some e146.zero, e146.size, e146.bytes) := by kernel_rfl
abbrev e147 : TE := ⟨.ptr 3, 1, 8, .pointer none⟩
theorem u147 : (Tryz.prog.underlying 147).map tdOf = some e147.td := by kernel_rfl
theorem i147 : (Tryz.prog.info? 147).map (fun i => (i.zero, i.size, i.bytes)) = some (some e147.zero, e147.size, e147.bytes) := by kernel_rfl
abbrev e148 : TE := ⟨.func, 1, 8, .nilFunc⟩
theorem u148 : (Tryz.prog.underlying 148).map tdOf = some e148.td := by kernel_rfl
theorem i148 : (Tryz.prog.info? 148).map (fun i => (i.zero, i.size, i.bytes)) = some (some e148.zero, e148.size, e148.bytes) := by kernel_rfl
abbrev e149 : TE := ⟨.ptr 143, 1, 8, .pointer none⟩
theorem u149 : (Tryz.prog.underlying 149).map tdOf = some e149.td := by kernel_rfl
theorem i149 : (Tryz.prog.info? 149).map (fun i => (i.zero, i.size, i.bytes)) = some (some e149.zero, e149.size, e149.bytes) := by kernel_rfl
abbrev e151 : TE := ⟨.func, 1, 8, .nilFunc⟩
theorem u151 : (Tryz.prog.underlying 151).map tdOf = some e151.td := by kernel_rfl
theorem i151 : (Tryz.prog.info? 151).map (fun i => (i.zero, i.size, i.bytes)) = some (some e151.zero, e151.size, e151.bytes) := by kernel_rfl
abbrev e159 : TE := ⟨.func, 1, 8, .nilFunc⟩
theorem u159 : (Tryz.prog.underlying 159).map tdOf = some e159.td := by kernel_rfl
theorem i159 : (Tryz.prog.info? 159).map (fun i => (i.zero, i.size, i.bytes)) = some (some e159.zero, e159.size, e159.bytes) := by kernel_rfl
abbrev tabL : List (Nat × TE) := [(1, ⟨.func, 1, 8, .nilFunc⟩), (2, ⟨.int .i64, 1, 8, .int .i64 0⟩), (3, ⟨.int .i64, 1, 8, .int .i64 0⟩), (4, ⟨.bool, 1, 1, .bool false⟩), (5, ⟨.int .u8, 1, 1, .int .u8 0⟩), (9, ⟨.string, 1, 16, .string ⟨#[]⟩⟩), (12, ⟨.int .u64, 1, 8, .int .u64 0⟩), (13, ⟨.struct [(9, 0), (12, 1)], 2, 24, .agg #[.string ⟨#[]⟩, .int .u64 0]⟩), (20, ⟨.iface, 1, 16, .nilIface⟩), (21, ⟨.int .i32, 1, 4, .int .i32 0⟩), (22, ⟨.slice 35, 1, 24, .slice none 0 0⟩), (23, ⟨.func, 1, 8, .nilFunc⟩), (24, ⟨.ptr 54, 1, 8, .pointer none⟩), (25, ⟨.func, 1, 8, .nilFunc⟩), (26, ⟨.ptr 57, 1, 8, .pointer none⟩), (27, ⟨.func, 1, 8, .nilFunc⟩), (28, ⟨.slice 32, 1, 24, .slice none 0 0⟩), (29, ⟨.struct [(3, 0), (28, 1)], 2, 32, .agg #[.int .i64 0, .slice none 0 0]⟩), (30, ⟨.struct [(3, 0), (28, 1)], 2, 32, .agg #[.int .i64 0, .slice none 0 0]⟩), (31, ⟨.struct [(3, 0), (9, 1)], 2, 24, .agg #[.int .i64 0, .string ⟨#[]⟩]⟩), (32, ⟨.struct [(3, 0), (9, 1)], 2, 24, .agg #[.int .i64 0, .string ⟨#[]⟩]⟩), (33, ⟨.slice 3, 1, 24, .slice none 0 0⟩), (34, ⟨.struct [(3, 0), (9, 1), (30, 2), (32, 4), (3, 6), (33, 7)], 8, 112, .agg #[.int .i64 0, .string ⟨#[]⟩, .int .i64 0, .slice none 0 0, .int .i64 0, .string ⟨#[]⟩, .int .i64 0, .slice none 0 0]⟩), (35, ⟨.struct [(3, 0), (9, 1), (30, 2), (32, 4), (3, 6), (33, 7)], 8, 112, .agg #[.int .i64 0, .string ⟨#[]⟩, .int .i64 0, .slice none 0 0, .int .i64 0, .string ⟨#[]⟩, .int .i64 0, .slice none 0 0]⟩), (36, ⟨.func, 1, 8, .nilFunc⟩), (37, ⟨.int .i64, 1, 8, .int .i64 0⟩), (38, ⟨.func, 1, 8, .nilFunc⟩), (39, ⟨.func, 1, 8, .nilFunc⟩), (40, ⟨.func, 1, 8, .nilFunc⟩), (41, ⟨.func, 1, 8, .nilFunc⟩), (42, ⟨.func, 1, 8, .nilFunc⟩), (43, ⟨.func, 1, 8, .nilFunc⟩), (45, ⟨.func, 1, 8, .nilFunc⟩), (47, ⟨.func, 1, 8, .nilFunc⟩), (48, ⟨.func, 1, 8, .nilFunc⟩), (49, ⟨.func, 1, 8, .nilFunc⟩), (50, ⟨.func, 1, 8, .nilFunc⟩), (51, ⟨.func, 1, 8, .nilFunc⟩), (52, ⟨.map 9 76, 1, 8, .map none⟩), (53, ⟨.struct [(52, 0), (3, 1), (3, 2), (3, 3), (4, 4)], 5, 40, .agg #[.map none, .int .i64 0, .int .i64 0, .int .i64 0, .bool false]⟩), (54, ⟨.struct [(52, 0), (3, 1), (3, 2), (3, 3), (4, 4)], 5, 40, .agg #[.map none, .int .i64 0, .int .i64 0, .int .i64 0, .bool false]⟩), (55, ⟨.slice 78, 1, 24, .slice none 0 0⟩), (56, ⟨.struct [(3, 0), (55, 1), (3, 2), (4, 3)], 4, 48, .agg #[.int .i64 0, .slice none 0 0, .int .i64 0, .bool false]⟩), (57, ⟨.struct [(3, 0), (55, 1), (3, 2), (4, 3)], 4, 48, .agg #[.int .i64 0, .slice none 0 0, .int .i64 0, .bool false]⟩), (59, ⟨.func, 1, 8, .nilFunc⟩), (60, ⟨.func, 1, 8, .nilFunc⟩), (62, ⟨.func, 1, 8, .nilFunc⟩), (63, ⟨.func, 1, 8, .nilFunc⟩), (64, ⟨.func, 1, 8, .nilFunc⟩), (65, ⟨.func, 1, 8, .nilFunc⟩), (66, ⟨.func, 1, 8, .nilFunc⟩), (67, ⟨.func, 1, 8, .nilFunc⟩), (69, ⟨.func, 1, 8, .nilFunc⟩), (70, ⟨.func, 1, 8, .nilFunc⟩), (71, ⟨.func, 1, 8, .nilFunc⟩), (72, ⟨.func, 1, 8, .nilFunc⟩), (73, ⟨.slice 9, 1, 24, .slice none 0 0⟩), (74, ⟨.func, 1, 8, .nilFunc⟩), (75, ⟨.struct [(9, 0), (3, 1)], 2, 24, .agg #[.string ⟨#[]⟩, .int .i64 0]⟩), (76, ⟨.struct [(9, 0), (3, 1)], 2, 24, .agg #[.string ⟨#[]⟩, .int .i64 0]⟩), (77, ⟨.struct [(9, 0), (9, 1), (3, 2)], 3, 40, .agg #[.string ⟨#[]⟩, .string ⟨#[]⟩, .int .i64 0]⟩), (78, ⟨.struct [(9, 0), (9, 1), (3, 2)], 3, 40, .agg #[.string ⟨#[]⟩, .string ⟨#[]⟩, .int .i64 0]⟩), (79, ⟨.func, 1, 8, .nilFunc⟩), (81, ⟨.func, 1, 8, .nilFunc⟩), (82, ⟨.struct [], 0, 0, .agg #[]⟩), (83, ⟨.struct [], 0, 0, .agg #[]⟩), (85, ⟨.func, 1, 8, .nilFunc⟩), (86, ⟨.func, 1, 8, .nilFunc⟩), (87, ⟨.func, 1, 8, .nilFunc⟩), (88, ⟨.ptr 91, 1, 8, .pointer none⟩), (89, ⟨.slice 5, 1, 24, .slice none 0 0⟩), (90, ⟨.struct [(88, 0), (89, 1)], 2, 32, .agg #[.pointer none, .slice none 0 0]⟩), (91, ⟨.struct [(88, 0), (89, 1)], 2, 32, .agg #[.pointer none, .slice none 0 0]⟩), (92, ⟨.iface, 1, 16, .nilIface⟩), (93, ⟨.iface, 1, 16, .nilIface⟩), (95, ⟨.func, 1, 8, .nilFunc⟩), (96, ⟨.func, 1, 8, .nilFunc⟩), (97, ⟨.func, 1, 8, .nilFunc⟩), (98, ⟨.slice 97, 1, 24, .slice none 0 0⟩), (99, ⟨.func, 1, 8, .nilFunc⟩), (100, ⟨.func, 1, 8, .nilFunc⟩), (102, ⟨.func, 1, 8, .nilFunc⟩), (103, ⟨.func, 1, 8, .nilFunc⟩), (104, ⟨.func, 1, 8, .nilFunc⟩), (105, ⟨.func, 1, 8, .nilFunc⟩), (106, ⟨.func, 1, 8, .nilFunc⟩), (107, ⟨.func, 1, 8, .nilFunc⟩), (110, ⟨.func, 1, 8, .nilFunc⟩), (112, ⟨.func, 1, 8, .nilFunc⟩), (114, ⟨.func, 1, 8, .nilFunc⟩), (116, ⟨.func, 1, 8, .nilFunc⟩), (117, ⟨.ptr 5, 1, 8, .pointer none⟩), (118, ⟨.func, 1, 8, .nilFunc⟩), (119, ⟨.int .u32, 1, 4, .int .u32 0⟩), (120, ⟨.func, 1, 8, .nilFunc⟩), (121, ⟨.int .u64, 1, 8, .int .u64 0⟩), (122, ⟨.int .u64, 1, 8, .int .u64 0⟩), (123, ⟨.func, 1, 8, .nilFunc⟩), (125, ⟨.func, 1, 8, .nilFunc⟩), (126, ⟨.other, 1, 8, .pointer none⟩), (127, ⟨.func, 1, 8, .nilFunc⟩), (128, ⟨.arr 4 5, 4, 4, .agg #[.int .u8 0, .int .u8 0, .int .u8 0, .int .u8 0]⟩), (129, ⟨.func, 1, 8, .nilFunc⟩), (130, ⟨.func, 1, 8, .nilFunc⟩), (131, ⟨.func, 1, 8, .nilFunc⟩), (132, ⟨.func, 1, 8, .nilFunc⟩), (133, ⟨.int .i64, 1, 8, .int .i64 0⟩), (135, ⟨.func, 1, 8, .nilFunc⟩), (136, ⟨.func, 1, 8, .nilFunc⟩), (137, ⟨.func, 1, 8, .nilFunc⟩), (138, ⟨.func, 1, 8, .nilFunc⟩), (140, ⟨.func, 1, 8, .nilFunc⟩), (141, ⟨.func, 1, 8, .nilFunc⟩), (142, ⟨.func, 1, 8, .nilFunc⟩), (143, ⟨.int .u64, 1, 8, .int .u64 0⟩), (144, ⟨.func, 1, 8, .nilFunc⟩), (145, ⟨.func, 1, 8, .nilFunc⟩), (146, ⟨.func, 1, 8, .nilFunc⟩), (147, ⟨.ptr 3, 1, 8, .pointer none⟩), (148, ⟨.func, 1, 8, .nilFunc⟩), (149, ⟨.ptr 143, 1, 8, .pointer none⟩), (151, ⟨.func, 1, 8, .nilFunc⟩), (159, ⟨.func, 1, 8, .nilFunc⟩)]
theorem tabL_u : ∀ x ∈ tabL, (Tryz.prog.underlying x.1).map tdOf = some x.2.td := by
  intro x hx
  simp only [tabL, List.mem_cons, List.not_mem_nil, or_false] at hx
  rcases hx with rfl | rfl | rfl | rfl | rfl | rfl | rfl | rfl | rfl | rfl | rfl | rfl | rfl | rfl | rfl | rfl | rfl | rfl | rfl | rfl | rfl | rfl | rfl | rfl | rfl | rfl | rfl | rfl | rfl | rfl | rfl | rfl | rfl | rfl | rfl | rfl | rfl | rfl | rfl | rfl | rfl | rfl | rfl | rfl | rfl | rfl | rfl | rfl | rfl | rfl | rfl | rfl | rfl | rfl | rfl | rfl | rfl | rfl | rfl | rfl | rfl | rfl | rfl | rfl | rfl | rfl | rfl | rfl | rfl | rfl | rfl | rfl | rfl | rfl | rfl | rfl | rfl | rfl | rfl | rfl | rfl | rfl | rfl | rfl | rfl | rfl | rfl | rfl | rfl | rfl | rfl | rfl | rfl | rfl | rfl | rfl | rfl | rfl | rfl | rfl | rfl | rfl | rfl | rfl | rfl | rfl | rfl | rfl | rfl | rfl | rfl | rfl | rfl | rfl | rfl | rfl | rfl | rfl | rfl | rfl | rfl | rfl | rfl
  · exact u1
  · exact u2
  · exact u3
  · exact u4
  · exact u5
  · exact u9
  · exact u12
  · exact u13
  · exact u20
  · exact u21
  · exact u22
  · exact u23
  · exact u24
  · exact u25
  · exact u26
  · exact u27
  · exact u28
  · exact u29
  · exact u30
  · exact u31
  · exact u32
  · exact u33
  · exact u34
  · exact u35
  · exact u36
  · exact u37
  · exact u38
  · exact u39
  · exact u40
  · exact u41
  · exact u42
  · exact u43
  · exact u45
  · exact u47
  · exact u48
  · exact u49
  · exact u50
  · exact u51
  · exact u52
  · exact u53
  · exact u54
  · exact u55
  · exact u56
  · exact u57
  · exact u59
  · exact u60
  · exact u62
  · exact u63
  · exact u64
  · exact u65
  · exact u66
  · exact u67
  · exact u69
  · exact u70
  · exact u71
  · exact u72
  · exact u73
  · exact u74
  · exact u75
  · exact u76
  · exact u77
  · exact u78
  · exact u79
  · exact u81
  · exact u82
  · exact u83
  · exact u85
  · exact u86
  · exact u87
  · exact u88
  · exact u89
  · exact u90
  · exact u91
  · exact u92
  · exact u93
  · exact u95
  · exact u96
  · exact u97
  · exact u98
  · exact u99
  · exact u100
  · exact u102
  · exact u103
  · exact u104
  · exact u105
  · exact u106
  · exact u107
  · exact u110
  · exact u112
  · exact u114
  · exact u116
  · exact u117
  · exact u118
  · exact u119
  · exact u120
  · exact u121
  · exact u122
  · exact u123
  · exact u125
  · exact u126
  · exact u127
  · exact u128
  · exact u129
  · exact u130
  · exact u131
  · exact u132
  · exact u133
  · exact u135
  · exact u136
  · exact u137
  · exact u138
  · exact u140
  · exact u141
  · exact u142
  · exact u143
  · exact u144
  · exact u145
  · exact u146
  · exact u147
  · exact u148
  · exact u149
  · exact u151
  · exact u159
theorem tabL_i : ∀ x ∈ tabL, (Tryz.prog.info? x.1).map (fun i => (i.zero, i.size, i.bytes)) = some (some x.2.zero, x.2.size, x.2.bytes) := by
  intro x hx
  simp only [tabL, List.mem_cons, List.not_mem_nil, or_false] at hx
  rcases hx with rfl | rfl | rfl | rfl | rfl | rfl | rfl | rfl | rfl | rfl | rfl | rfl | rfl | rfl | rfl | rfl | rfl | rfl | rfl | rfl | rfl | rfl | rfl | rfl | rfl | rfl | rfl | rfl | rfl | rfl | rfl | rfl | rfl | rfl | rfl | rfl | rfl | rfl | rfl | rfl | rfl | rfl | rfl | rfl | rfl | rfl | rfl | rfl | rfl | rfl | rfl | rfl | rfl | rfl | rfl | rfl | rfl | rfl | rfl | rfl | rfl | rfl | rfl | rfl | rfl | rfl | rfl | rfl | rfl | rfl | rfl | rfl | rfl | rfl | rfl | rfl | rfl | rfl | rfl | rfl | rfl | rfl | rfl | rfl | rfl | rfl | rfl | rfl | rfl | rfl | rfl | rfl | rfl | rfl | rfl | rfl | rfl | rfl | rfl | rfl | rfl | rfl | rfl | rfl | rfl | rfl | rfl | rfl | rfl | rfl | rfl | rfl | rfl | rfl | rfl | rfl | rfl | rfl | rfl | rfl | rfl | rfl | rfl
  · exact i1
  · exact i2
  · exact i3
  · exact i4
  · exact i5
  · exact i9
  · exact i12
  · exact i13
  · exact i20
  · exact i21
  · exact i22
  · exact i23
  · exact i24
  · exact i25
  · exact i26
  · exact i27
  · exact i28
  · exact i29
  · exact i30
  · exact i31
  · exact i32
  · exact i33
  · exact i34
  · exact i35
  · exact i36
  · exact i37
  · exact i38
  · exact i39
  · exact i40
  · exact i41
  · exact i42
  · exact i43
  · exact i45
  · exact i47
  · exact i48
  · exact i49
  · exact i50
  · exact i51
  · exact i52
  · exact i53
  · exact i54
  · exact i55
  · exact i56
  · exact i57
  · exact i59
  · exact i60
  · exact i62
  · exact i63
  · exact i64
  · exact i65
  · exact i66
  · exact i67
  · exact i69
  · exact i70
  · exact i71
  · exact i72
  · exact i73
  · exact i74
  · exact i75
  · exact i76
  · exact i77
  · exact i78
  · exact i79
  · exact i81
  · exact i82
  · exact i83
  · exact i85
  · exact i86
  · exact i87
  · exact i88
  · exact i89
  · exact i90
  · exact i91
  · exact i92
  · exact i93
  · exact i95
  · exact i96
  · exact i97
  · exact i98
  · exact i99
  · exact i100
  · exact i102
  · exact i103
  · exact i104
  · exact i105
  · exact i106
  · exact i107
  · exact i110
  · exact i112
  · exact i114
  · exact i116
  · exact i117
  · exact i118
  · exact i119
  · exact i120
  · exact i121
  · exact i122
  · exact i123
  · exact i125
  · exact i126
  · exact i127
  · exact i128
  · exact i129
  · exact i130
  · exact i131
  · exact i132
  · exact i133
  · exact i135
  · exact i136
  · exact i137
  · exact i138
  · exact i140
  · exact i141
  · exact i142
  · exact i143
  · exact i144
  · exact i145
  · exact i146
  · exact i147
  · exact i148
  · exact i149
  · exact i151
  · exact i159
abbrev TT : Tab Tryz.prog := ⟨tabL, tabL_u, tabL_i⟩
theorem cmp31 : CmpT Tryz.prog 31 := ⟨by kernel_rfl, by kernel_rfl, by kernel_rfl, fun f hf => by
  have h : (Tryz.prog.fieldsOf 31).toList.all (fun f => f.name != "_") = true := by kernel_rfl
  have := List.all_eq_true.1 h f hf
  simpa using this⟩
theorem cmp32 : CmpT Tryz.prog 32 := ⟨by kernel_rfl, by kernel_rfl, by kernel_rfl, fun f hf => by
  have h : (Tryz.prog.fieldsOf 32).toList.all (fun f => f.name != "_") = true := by kernel_rfl
  have := List.all_eq_true.1 h f hf
  simpa using this⟩
theorem cmp75 : CmpT Tryz.prog 75 := ⟨by kernel_rfl, by kernel_rfl, by kernel_rfl, fun f hf => by
  have h : (Tryz.prog.fieldsOf 75).toList.all (fun f => f.name != "_") = true := by kernel_rfl
  have := List.all_eq_true.1 h f hf
  simpa using this⟩
theorem cmp76 : CmpT Tryz.prog 76 := ⟨by kernel_rfl, by kernel_rfl, by kernel_rfl, fun f hf => by
  have h : (Tryz.prog.fieldsOf 76).toList.all (fun f => f.name != "_") = true := by kernel_rfl
  have := List.all_eq_true.1 h f hf
  simpa using this⟩
theorem cmp77 : CmpT Tryz.prog 77 := ⟨by kernel_rfl, by kernel_rfl, by kernel_rfl, fun f hf => by
  have h : (Tryz.prog.fieldsOf 77).toList.all (fun f => f.name != "_") = true := by kernel_rfl
  have := List.all_eq_true.1 h f hf
  simpa using this⟩
theorem cmp78 : CmpT Tryz.prog 78 := ⟨by kernel_rfl, by kernel_rfl, by kernel_rfl, fun f hf => by
  have h : (Tryz.prog.fieldsOf 78).toList.all (fun f => f.name != "_") = true := by kernel_rfl
  have := List.all_eq_true.1 h f hf
  simpa using this⟩
theorem mixed : Tryz.prog.follows .mixedOrders = true := by kernel_rfl
theorem c3 : Callable Tryz.prog 3 := Callable.of Tryz.func3 (by kernel_rfl) rfl
theorem c4 : Callable Tryz.prog 4 := Callable.of Tryz.func4 (by kernel_rfl) rfl
theorem c5 : Callable Tryz.prog 5 := Callable.of Tryz.func5 (by kernel_rfl) rfl
theorem c6 : Callable Tryz.prog 6 := Callable.of Tryz.func6 (by kernel_rfl) rfl
theorem c7 : Callable Tryz.prog 7 := Callable.of Tryz.func7 (by kernel_rfl) rfl
theorem c8 : Callable Tryz.prog 8 := Callable.of Tryz.func8 (by kernel_rfl) rfl
theorem c9 : Callable Tryz.prog 9 := Callable.of Tryz.func9 (by kernel_rfl) rfl
theorem c10 : Callable Tryz.prog 10 := Callable.of Tryz.func10 (by kernel_rfl) rfl
theorem c11 : Callable Tryz.prog 11 := Callable.of Tryz.func11 (by kernel_rfl) rfl
theorem c12 : Callable Tryz.prog 12 := Callable.of Tryz.func12 (by kernel_rfl) rfl
theorem c13 : Callable Tryz.prog 13 := Callable.of Tryz.func13 (by kernel_rfl) rfl
theorem c14 : Callable Tryz.prog 14 := Callable.of Tryz.func14 (by kernel_rfl) rfl
theorem c15 : Callable Tryz.prog 15 := Callable.of Tryz.func15 (by kernel_rfl) rfl
theorem c16 : Callable Tryz.prog 16 := Callable.of Tryz.func16 (by kernel_rfl) rfl
theorem c17 : Callable Tryz.prog 17 := Callable.of Tryz.func17 (by kernel_rfl) rfl
theorem c18 : Callable Tryz.prog 18 := Callable.of Tryz.func18 (by kernel_rfl) rfl
theorem c19 : Callable Tryz.prog 19 := Callable.of Tryz.func19 (by kernel_rfl) rfl
theorem c20 : Callable Tryz.prog 20 := Callable.of Tryz.func20 (by kernel_rfl) rfl
theorem c21 : Callable Tryz.prog 21 := Callable.of Tryz.func21 (by kernel_rfl) rfl
theorem c22 : Callable Tryz.prog 22 := Callable.of Tryz.func22 (by kernel_rfl) rfl
theorem c23 : Callable Tryz.prog 23 := Callable.of Tryz.func23 (by kernel_rfl) rfl
theorem c24 : Callable Tryz.prog 24 := Callable.of Tryz.func24 (by kernel_rfl) rfl
theorem c25 : Callable Tryz.prog 25 := Callable.of Tryz.func25 (by kernel_rfl) rfl
theorem c26 : Callable Tryz.prog 26 := Callable.of Tryz.func26 (by kernel_rfl) rfl
theorem c27 : Callable Tryz.prog 27 := Callable.of Tryz.func27 (by kernel_rfl) rfl
theorem c28 : Callable Tryz.prog 28 := Callable.of Tryz.func28 (by kernel_rfl) rfl
theorem c29 : Callable Tryz.prog 29 := Callable.of Tryz.func29 (by kernel_rfl) rfl
theorem c30 : Callable Tryz.prog 30 := Callable.of Tryz.func30 (by kernel_rfl) rfl
theorem c31 : Callable Tryz.prog 31 := Callable.of Tryz.func31 (by kernel_rfl) rfl
theorem c32 : Callable Tryz.prog 32 := Callable.of Tryz.func32 (by kernel_rfl) rfl
theorem c33 : Callable Tryz.prog 33 := Callable.of Tryz.func33 (by kernel_rfl) rfl
theorem c34 : Callable Tryz.prog 34 := Callable.of Tryz.func34 (by kernel_rfl) rfl
theorem c35 : Callable Tryz.prog 35 := Callable.of Tryz.func35 (by kernel_rfl) rfl
theorem c36 : Callable Tryz.prog 36 := Callable.of Tryz.func36 (by kernel_rfl) rfl
theorem c37 : Callable Tryz.prog 37 := Callable.of Tryz.func37 (by kernel_rfl) rfl
theorem c38 : Callable Tryz.prog 38 := Callable.of Tryz.func38 (by kernel_rfl) rfl
theorem c39 : Callable Tryz.prog 39 := Callable.of Tryz.func39 (by kernel_rfl) rfl
theorem c40 : Callable Tryz.prog 40 := Callable.of Tryz.func40 (by kernel_rfl) rfl
theorem c41 : Callable Tryz.prog 41 := Callable.of Tryz.func41 (by kernel_rfl) rfl
theorem c42 : Callable Tryz.prog 42 := Callable.of Tryz.func42 (by kernel_rfl) rfl
theorem c43 : Callable Tryz.prog 43 := Callable.of Tryz.func43 (by kernel_rfl) rfl
theorem c44 : Callable Tryz.prog 44 := Callable.of Tryz.func44 (by kernel_rfl) rfl
theorem c45 : Callable Tryz.prog 45 := Callable.of Tryz.func45 (by kernel_rfl) rfl
theorem c46 : Callable Tryz.prog 46 := Callable.of Tryz.func46 (by kernel_rfl) rfl
theorem c47 : Callable Tryz.prog 47 := Callable.of Tryz.func47 (by kernel_rfl) rfl
theorem c48 : Callable Tryz.prog 48 := Callable.of Tryz.func48 (by kernel_rfl) rfl
theorem c49 : Callable Tryz.prog 49 := Callable.of Tryz.func49 (by kernel_rfl) rfl
theorem c50 : Callable Tryz.prog 50 := Callable.of Tryz.func50 (by kernel_rfl) rfl
theorem c51 : Callable Tryz.prog 51 := Callable.of Tryz.func51 (by kernel_rfl) rfl
theorem c52 : Callable Tryz.prog 52 := Callable.of Tryz.func52 (by kernel_rfl) rfl
theorem c53 : Callable Tryz.prog 53 := Callable.of Tryz.func53 (by kernel_rfl) rfl
theorem c54 : Callable Tryz.prog 54 := Callable.of Tryz.func54 (by kernel_rfl) rfl
theorem c55 : Callable Tryz.prog 55 := Callable.of Tryz.func55 (by kernel_rfl) rfl
theorem c56 : Callable Tryz.prog 56 := Callable.of Tryz.func56 (by kernel_rfl) rfl
theorem c57 : Callable Tryz.prog 57 := Callable.of Tryz.func57 (by kernel_rfl) rfl
theorem c58 : Callable Tryz.prog 58 := Callable.of Tryz.func58 (by kernel_rfl) rfl
theorem c59 : Callable Tryz.prog 59 := Callable.of Tryz.func59 (by kernel_rfl) rfl
theorem c60 : Callable Tryz.prog 60 := Callable.of Tryz.func60 (by kernel_rfl) rfl
theorem c61 : Callable Tryz.prog 61 := Callable.of Tryz.func61 (by kernel_rfl) rfl
theorem c62 : Callable Tryz.prog 62 := Callable.of Tryz.func62 (by kernel_rfl) rfl
theorem c63 : Callable Tryz.prog 63 := Callable.of Tryz.func63 (by kernel_rfl) rfl
theorem c64 : Callable Tryz.prog 64 := Callable.of Tryz.func64 (by kernel_rfl) rfl
theorem c65 : Callable Tryz.prog 65 := Callable.of Tryz.func65 (by kernel_rfl) rfl
theorem c66 : Callable Tryz.prog 66 := Callable.of Tryz.func66 (by kernel_rfl) rfl
theorem c67 : Callable Tryz.prog 67 := Callable.of Tryz.func67 (by kernel_rfl) rfl
theorem c68 : Callable Tryz.prog 68 := Callable.of Tryz.func68 (by kernel_rfl) rfl
theorem c69 : Callable Tryz.prog 69 := Callable.of Tryz.func69 (by kernel_rfl) rfl
theorem c70 : Callable Tryz.prog 70 := Callable.of Tryz.func70 (by kernel_rfl) rfl
theorem c71 : Callable Tryz.prog 71 := Callable.of Tryz.func71 (by kernel_rfl) rfl
theorem c72 : Callable Tryz.prog 72 := Callable.of Tryz.func72 (by kernel_rfl) rfl
theorem c73 : Callable Tryz.prog 73 := Callable.of Tryz.func73 (by kernel_rfl) rfl
theorem c74 : Callable Tryz.prog 74 := Callable.of Tryz.func74 (by kernel_rfl) rfl
theorem c75 : Callable Tryz.prog 75 := Callable.of Tryz.func75 (by kernel_rfl) rfl
theorem c76 : Callable Tryz.prog 76 := Callable.of Tryz.func76 (by kernel_rfl) rfl
theorem c77 : Callable Tryz.prog 77 := Callable.of Tryz.func77 (by kernel_rfl) rfl
theorem c78 : Callable Tryz.prog 78 := Callable.of Tryz.func78 (by kernel_rfl) rfl
theorem c79 : Callable Tryz.prog 79 := Callable.of Tryz.func79 (by kernel_rfl) rfl
theorem c80 : Callable Tryz.prog 80 := Callable.of Tryz.func80 (by kernel_rfl) rfl
theorem c81 : Callable Tryz.prog 81 := Callable.of Tryz.func81 (by kernel_rfl) rfl
theorem c82 : Callable Tryz.prog 82 := Callable.of Tryz.func82 (by kernel_rfl) rfl
theorem c84 : Callable Tryz.prog 84 := Callable.of Tryz.func84 (by kernel_rfl) rfl
theorem c85 : Callable Tryz.prog 85 := Callable.of Tryz.func85 (by kernel_rfl) rfl
theorem c86 : Callable Tryz.prog 86 := Callable.of Tryz.func86 (by kernel_rfl) rfl
theorem c87 : Callable Tryz.prog 87 := Callable.of Tryz.func87 (by kernel_rfl) rfl
theorem c88 : Callable Tryz.prog 88 := Callable.of Tryz.func88 (by kernel_rfl) rfl
theorem c89 : Callable Tryz.prog 89 := Callable.of Tryz.func89 (by kernel_rfl) rfl
theorem c90 : Callable Tryz.prog 90 := Callable.of Tryz.func90 (by kernel_rfl) rfl
theorem c91 : Callable Tryz.prog 91 := Callable.of Tryz.func91 (by kernel_rfl) rfl
theorem c92 : Callable Tryz.prog 92 := Callable.of Tryz.func92 (by kernel_rfl) rfl
theorem c93 : Callable Tryz.prog 93 := Callable.of Tryz.func93 (by kernel_rfl) rfl
theorem c94 : Callable Tryz.prog 94 := Callable.of Tryz.func94 (by kernel_rfl) rfl
theorem c95 : Callable Tryz.prog 95 := Callable.of Tryz.func95 (by kernel_rfl) rfl
theorem c96 : Callable Tryz.prog 96 := Callable.of Tryz.func96 (by kernel_rfl) rfl
theorem c97 : Callable Tryz.prog 97 := Callable.of Tryz.func97 (by kernel_rfl) rfl
theorem c98 : Callable Tryz.prog 98 := Callable.of Tryz.func98 (by kernel_rfl) rfl
theorem c99 : Callable Tryz.prog 99 := Callable.of Tryz.func99 (by kernel_rfl) rfl
theorem c100 : Callable Tryz.prog 100 := Callable.of Tryz.func100 (by kernel_rfl) rfl
theorem c101 : Callable Tryz.prog 101 := Callable.of Tryz.func101 (by kernel_rfl) rfl
theorem c102 : Callable Tryz.prog 102 := Callable.of Tryz.func102 (by kernel_rfl) rfl
theorem c103 : Callable Tryz.prog 103 := Callable.of Tryz.func103 (by kernel_rfl) rfl
theorem c104 : Callable Tryz.prog 104 := Callable.of Tryz.func104 (by kernel_rfl) rfl
end Go.Proofs.YtpklbelejebcfaaGreat.B
