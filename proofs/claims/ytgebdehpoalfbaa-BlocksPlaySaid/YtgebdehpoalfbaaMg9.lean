import Derived.Test.YtgebdehpoalfbaaMg8
import Derived.Test.YtgebdehpoalfbaaProg
import Derived.KernelRfl
set_option linter.unusedVariables false
set_option maxRecDepth 100000
/-! The table of types, and what a call enters. Laid by wip/gentab.py. -/
namespace Go.Proofs.Ytgebdehpoalfbaa.B
open Go Go.Proofs
abbrev e1 : TE := ⟨.func, 1, 8, .nilFunc⟩
theorem u1 : (Try.prog.underlying 1).map tdOf = some e1.td := by kernel_rfl
theorem i1 : (Try.prog.info? 1).map (fun i => (i.zero, i.size, i.bytes)) = some (some e1.zero, e1.size, e1.bytes) := by kernel_rfl
abbrev e2 : TE := ⟨.int .i64, 1, 8, .int .i64 0⟩
theorem u2 : (Try.prog.underlying 2).map tdOf = some e2.td := by kernel_rfl
theorem i2 : (Try.prog.info? 2).map (fun i => (i.zero, i.size, i.bytes)) = some (some e2.zero, e2.size, e2.bytes) := by kernel_rfl
abbrev e3 : TE := ⟨.int .i64, 1, 8, .int .i64 0⟩
theorem u3 : (Try.prog.underlying 3).map tdOf = some e3.td := by kernel_rfl
theorem i3 : (Try.prog.info? 3).map (fun i => (i.zero, i.size, i.bytes)) = some (some e3.zero, e3.size, e3.bytes) := by kernel_rfl
abbrev e4 : TE := ⟨.bool, 1, 1, .bool false⟩
theorem u4 : (Try.prog.underlying 4).map tdOf = some e4.td := by kernel_rfl
theorem i4 : (Try.prog.info? 4).map (fun i => (i.zero, i.size, i.bytes)) = some (some e4.zero, e4.size, e4.bytes) := by kernel_rfl
abbrev e5 : TE := ⟨.int .u8, 1, 1, .int .u8 0⟩
theorem u5 : (Try.prog.underlying 5).map tdOf = some e5.td := by kernel_rfl
theorem i5 : (Try.prog.info? 5).map (fun i => (i.zero, i.size, i.bytes)) = some (some e5.zero, e5.size, e5.bytes) := by kernel_rfl
abbrev e9 : TE := ⟨.string, 1, 16, .string ⟨#[]⟩⟩
theorem u9 : (Try.prog.underlying 9).map tdOf = some e9.td := by kernel_rfl
theorem i9 : (Try.prog.info? 9).map (fun i => (i.zero, i.size, i.bytes)) = some (some e9.zero, e9.size, e9.bytes) := by kernel_rfl
abbrev e12 : TE := ⟨.int .u64, 1, 8, .int .u64 0⟩
theorem u12 : (Try.prog.underlying 12).map tdOf = some e12.td := by kernel_rfl
theorem i12 : (Try.prog.info? 12).map (fun i => (i.zero, i.size, i.bytes)) = some (some e12.zero, e12.size, e12.bytes) := by kernel_rfl
abbrev e13 : TE := ⟨.struct [(9, 0), (12, 1)], 2, 24, .agg #[.string ⟨#[]⟩, .int .u64 0]⟩
theorem u13 : (Try.prog.underlying 13).map tdOf = some e13.td := by kernel_rfl
theorem i13 : (Try.prog.info? 13).map (fun i => (i.zero, i.size, i.bytes)) = some (some e13.zero, e13.size, e13.bytes) := by kernel_rfl
abbrev e20 : TE := ⟨.iface, 1, 16, .nilIface⟩
theorem u20 : (Try.prog.underlying 20).map tdOf = some e20.td := by kernel_rfl
theorem i20 : (Try.prog.info? 20).map (fun i => (i.zero, i.size, i.bytes)) = some (some e20.zero, e20.size, e20.bytes) := by kernel_rfl
abbrev e21 : TE := ⟨.int .i32, 1, 4, .int .i32 0⟩
theorem u21 : (Try.prog.underlying 21).map tdOf = some e21.td := by kernel_rfl
theorem i21 : (Try.prog.info? 21).map (fun i => (i.zero, i.size, i.bytes)) = some (some e21.zero, e21.size, e21.bytes) := by kernel_rfl
abbrev e22 : TE := ⟨.slice 30, 1, 24, .slice none 0 0⟩
theorem u22 : (Try.prog.underlying 22).map tdOf = some e22.td := by kernel_rfl
theorem i22 : (Try.prog.info? 22).map (fun i => (i.zero, i.size, i.bytes)) = some (some e22.zero, e22.size, e22.bytes) := by kernel_rfl
abbrev e23 : TE := ⟨.slice 28, 1, 24, .slice none 0 0⟩
theorem u23 : (Try.prog.underlying 23).map tdOf = some e23.td := by kernel_rfl
theorem i23 : (Try.prog.info? 23).map (fun i => (i.zero, i.size, i.bytes)) = some (some e23.zero, e23.size, e23.bytes) := by kernel_rfl
abbrev e24 : TE := ⟨.func, 1, 8, .nilFunc⟩
theorem u24 : (Try.prog.underlying 24).map tdOf = some e24.td := by kernel_rfl
theorem i24 : (Try.prog.info? 24).map (fun i => (i.zero, i.size, i.bytes)) = some (some e24.zero, e24.size, e24.bytes) := by kernel_rfl
abbrev e25 : TE := ⟨.ptr 61, 1, 8, .pointer none⟩
theorem u25 : (Try.prog.underlying 25).map tdOf = some e25.td := by kernel_rfl
theorem i25 : (Try.prog.info? 25).map (fun i => (i.zero, i.size, i.bytes)) = some (some e25.zero, e25.size, e25.bytes) := by kernel_rfl
abbrev e26 : TE := ⟨.func, 1, 8, .nilFunc⟩
theorem u26 : (Try.prog.underlying 26).map tdOf = some e26.td := by kernel_rfl
theorem i26 : (Try.prog.info? 26).map (fun i => (i.zero, i.size, i.bytes)) = some (some e26.zero, e26.size, e26.bytes) := by kernel_rfl
abbrev e27 : TE := ⟨.struct [(3, 0), (3, 1), (3, 2)], 3, 24, .agg #[.int .i64 0, .int .i64 0, .int .i64 0]⟩
theorem u27 : (Try.prog.underlying 27).map tdOf = some e27.td := by kernel_rfl
theorem i27 : (Try.prog.info? 27).map (fun i => (i.zero, i.size, i.bytes)) = some (some e27.zero, e27.size, e27.bytes) := by kernel_rfl
abbrev e28 : TE := ⟨.struct [(3, 0), (3, 1), (3, 2)], 3, 24, .agg #[.int .i64 0, .int .i64 0, .int .i64 0]⟩
theorem u28 : (Try.prog.underlying 28).map tdOf = some e28.td := by kernel_rfl
theorem i28 : (Try.prog.info? 28).map (fun i => (i.zero, i.size, i.bytes)) = some (some e28.zero, e28.size, e28.bytes) := by kernel_rfl
abbrev e29 : TE := ⟨.struct [(28, 0), (4, 3)], 4, 32, .agg #[.int .i64 0, .int .i64 0, .int .i64 0, .bool false]⟩
theorem u29 : (Try.prog.underlying 29).map tdOf = some e29.td := by kernel_rfl
theorem i29 : (Try.prog.info? 29).map (fun i => (i.zero, i.size, i.bytes)) = some (some e29.zero, e29.size, e29.bytes) := by kernel_rfl
abbrev e30 : TE := ⟨.struct [(28, 0), (4, 3)], 4, 32, .agg #[.int .i64 0, .int .i64 0, .int .i64 0, .bool false]⟩
theorem u30 : (Try.prog.underlying 30).map tdOf = some e30.td := by kernel_rfl
theorem i30 : (Try.prog.info? 30).map (fun i => (i.zero, i.size, i.bytes)) = some (some e30.zero, e30.size, e30.bytes) := by kernel_rfl
abbrev e31 : TE := ⟨.int .i64, 1, 8, .int .i64 0⟩
theorem u31 : (Try.prog.underlying 31).map tdOf = some e31.td := by kernel_rfl
theorem i31 : (Try.prog.info? 31).map (fun i => (i.zero, i.size, i.bytes)) = some (some e31.zero, e31.size, e31.bytes) := by kernel_rfl
abbrev e32 : TE := ⟨.func, 1, 8, .nilFunc⟩
theorem u32 : (Try.prog.underlying 32).map tdOf = some e32.td := by kernel_rfl
theorem i32 : (Try.prog.info? 32).map (fun i => (i.zero, i.size, i.bytes)) = some (some e32.zero, e32.size, e32.bytes) := by kernel_rfl
abbrev e33 : TE := ⟨.slice 3, 1, 24, .slice none 0 0⟩
theorem u33 : (Try.prog.underlying 33).map tdOf = some e33.td := by kernel_rfl
theorem i33 : (Try.prog.info? 33).map (fun i => (i.zero, i.size, i.bytes)) = some (some e33.zero, e33.size, e33.bytes) := by kernel_rfl
abbrev e34 : TE := ⟨.func, 1, 8, .nilFunc⟩
theorem u34 : (Try.prog.underlying 34).map tdOf = some e34.td := by kernel_rfl
theorem i34 : (Try.prog.info? 34).map (fun i => (i.zero, i.size, i.bytes)) = some (some e34.zero, e34.size, e34.bytes) := by kernel_rfl
abbrev e35 : TE := ⟨.func, 1, 8, .nilFunc⟩
theorem u35 : (Try.prog.underlying 35).map tdOf = some e35.td := by kernel_rfl
theorem i35 : (Try.prog.info? 35).map (fun i => (i.zero, i.size, i.bytes)) = some (some e35.zero, e35.size, e35.bytes) := by kernel_rfl
abbrev e36 : TE := ⟨.func, 1, 8, .nilFunc⟩
theorem u36 : (Try.prog.underlying 36).map tdOf = some e36.td := by kernel_rfl
theorem i36 : (Try.prog.info? 36).map (fun i => (i.zero, i.size, i.bytes)) = some (some e36.zero, e36.size, e36.bytes) := by kernel_rfl
abbrev e37 : TE := ⟨.func, 1, 8, .nilFunc⟩
theorem u37 : (Try.prog.underlying 37).map tdOf = some e37.td := by kernel_rfl
theorem i37 : (Try.prog.info? 37).map (fun i => (i.zero, i.size, i.bytes)) = some (some e37.zero, e37.size, e37.bytes) := by kernel_rfl
abbrev e38 : TE := ⟨.func, 1, 8, .nilFunc⟩
theorem u38 : (Try.prog.underlying 38).map tdOf = some e38.td := by kernel_rfl
theorem i38 : (Try.prog.info? 38).map (fun i => (i.zero, i.size, i.bytes)) = some (some e38.zero, e38.size, e38.bytes) := by kernel_rfl
abbrev e39 : TE := ⟨.func, 1, 8, .nilFunc⟩
theorem u39 : (Try.prog.underlying 39).map tdOf = some e39.td := by kernel_rfl
theorem i39 : (Try.prog.info? 39).map (fun i => (i.zero, i.size, i.bytes)) = some (some e39.zero, e39.size, e39.bytes) := by kernel_rfl
abbrev e40 : TE := ⟨.func, 1, 8, .nilFunc⟩
theorem u40 : (Try.prog.underlying 40).map tdOf = some e40.td := by kernel_rfl
theorem i40 : (Try.prog.info? 40).map (fun i => (i.zero, i.size, i.bytes)) = some (some e40.zero, e40.size, e40.bytes) := by kernel_rfl
abbrev e41 : TE := ⟨.func, 1, 8, .nilFunc⟩
theorem u41 : (Try.prog.underlying 41).map tdOf = some e41.td := by kernel_rfl
theorem i41 : (Try.prog.info? 41).map (fun i => (i.zero, i.size, i.bytes)) = some (some e41.zero, e41.size, e41.bytes) := by kernel_rfl
abbrev e42 : TE := ⟨.func, 1, 8, .nilFunc⟩
theorem u42 : (Try.prog.underlying 42).map tdOf = some e42.td := by kernel_rfl
theorem i42 : (Try.prog.info? 42).map (fun i => (i.zero, i.size, i.bytes)) = some (some e42.zero, e42.size, e42.bytes) := by kernel_rfl
abbrev e43 : TE := ⟨.func, 1, 8, .nilFunc⟩
theorem u43 : (Try.prog.underlying 43).map tdOf = some e43.td := by kernel_rfl
theorem i43 : (Try.prog.info? 43).map (fun i => (i.zero, i.size, i.bytes)) = some (some e43.zero, e43.size, e43.bytes) := by kernel_rfl
abbrev e44 : TE := ⟨.slice 22, 1, 24, .slice none 0 0⟩
theorem u44 : (Try.prog.underlying 44).map tdOf = some e44.td := by kernel_rfl
theorem i44 : (Try.prog.info? 44).map (fun i => (i.zero, i.size, i.bytes)) = some (some e44.zero, e44.size, e44.bytes) := by kernel_rfl
abbrev e45 : TE := ⟨.func, 1, 8, .nilFunc⟩
theorem u45 : (Try.prog.underlying 45).map tdOf = some e45.td := by kernel_rfl
theorem i45 : (Try.prog.info? 45).map (fun i => (i.zero, i.size, i.bytes)) = some (some e45.zero, e45.size, e45.bytes) := by kernel_rfl
abbrev e46 : TE := ⟨.func, 1, 8, .nilFunc⟩
theorem u46 : (Try.prog.underlying 46).map tdOf = some e46.td := by kernel_rfl
theorem i46 : (Try.prog.info? 46).map (fun i => (i.zero, i.size, i.bytes)) = some (some e46.zero, e46.size, e46.bytes) := by kernel_rfl
abbrev e47 : TE := ⟨.slice 54, 1, 24, .slice none 0 0⟩
theorem u47 : (Try.prog.underlying 47).map tdOf = some e47.td := by kernel_rfl
theorem i47 : (Try.prog.info? 47).map (fun i => (i.zero, i.size, i.bytes)) = some (some e47.zero, e47.size, e47.bytes) := by kernel_rfl
abbrev e48 : TE := ⟨.ptr 52, 1, 8, .pointer none⟩
theorem u48 : (Try.prog.underlying 48).map tdOf = some e48.td := by kernel_rfl
theorem i48 : (Try.prog.info? 48).map (fun i => (i.zero, i.size, i.bytes)) = some (some e48.zero, e48.size, e48.bytes) := by kernel_rfl
abbrev e49 : TE := ⟨.arr 4 22, 4, 96, .agg #[.slice none 0 0, .slice none 0 0, .slice none 0 0, .slice none 0 0]⟩
theorem u49 : (Try.prog.underlying 49).map tdOf = some e49.td := by kernel_rfl
theorem i49 : (Try.prog.info? 49).map (fun i => (i.zero, i.size, i.bytes)) = some (some e49.zero, e49.size, e49.bytes) := by kernel_rfl
abbrev e50 : TE := ⟨.arr 4 4, 4, 4, .agg #[.bool false, .bool false, .bool false, .bool false]⟩
theorem u50 : (Try.prog.underlying 50).map tdOf = some e50.td := by kernel_rfl
theorem i50 : (Try.prog.info? 50).map (fun i => (i.zero, i.size, i.bytes)) = some (some e50.zero, e50.size, e50.bytes) := by kernel_rfl
abbrev e51 : TE := ⟨.struct [(49, 0), (50, 4)], 8, 104, .agg #[.slice none 0 0, .slice none 0 0, .slice none 0 0, .slice none 0 0, .bool false, .bool false, .bool false, .bool false]⟩
theorem u51 : (Try.prog.underlying 51).map tdOf = some e51.td := by kernel_rfl
theorem i51 : (Try.prog.info? 51).map (fun i => (i.zero, i.size, i.bytes)) = some (some e51.zero, e51.size, e51.bytes) := by kernel_rfl
abbrev e52 : TE := ⟨.struct [(49, 0), (50, 4)], 8, 104, .agg #[.slice none 0 0, .slice none 0 0, .slice none 0 0, .slice none 0 0, .bool false, .bool false, .bool false, .bool false]⟩
theorem u52 : (Try.prog.underlying 52).map tdOf = some e52.td := by kernel_rfl
theorem i52 : (Try.prog.info? 52).map (fun i => (i.zero, i.size, i.bytes)) = some (some e52.zero, e52.size, e52.bytes) := by kernel_rfl
abbrev e53 : TE := ⟨.struct [(3, 0), (3, 1), (22, 2), (23, 3), (28, 4), (3, 7)], 8, 96, .agg #[.int .i64 0, .int .i64 0, .slice none 0 0, .slice none 0 0, .int .i64 0, .int .i64 0, .int .i64 0, .int .i64 0]⟩
theorem u53 : (Try.prog.underlying 53).map tdOf = some e53.td := by kernel_rfl
theorem i53 : (Try.prog.info? 53).map (fun i => (i.zero, i.size, i.bytes)) = some (some e53.zero, e53.size, e53.bytes) := by kernel_rfl
abbrev e54 : TE := ⟨.struct [(3, 0), (3, 1), (22, 2), (23, 3), (28, 4), (3, 7)], 8, 96, .agg #[.int .i64 0, .int .i64 0, .slice none 0 0, .slice none 0 0, .int .i64 0, .int .i64 0, .int .i64 0, .int .i64 0]⟩
theorem u54 : (Try.prog.underlying 54).map tdOf = some e54.td := by kernel_rfl
theorem i54 : (Try.prog.info? 54).map (fun i => (i.zero, i.size, i.bytes)) = some (some e54.zero, e54.size, e54.bytes) := by kernel_rfl
abbrev e55 : TE := ⟨.func, 1, 8, .nilFunc⟩
theorem u55 : (Try.prog.underlying 55).map tdOf = some e55.td := by kernel_rfl
theorem i55 : (Try.prog.info? 55).map (fun i => (i.zero, i.size, i.bytes)) = some (some e55.zero, e55.size, e55.bytes) := by kernel_rfl
abbrev e56 : TE := ⟨.func, 1, 8, .nilFunc⟩
theorem u56 : (Try.prog.underlying 56).map tdOf = some e56.td := by kernel_rfl
theorem i56 : (Try.prog.info? 56).map (fun i => (i.zero, i.size, i.bytes)) = some (some e56.zero, e56.size, e56.bytes) := by kernel_rfl
abbrev e57 : TE := ⟨.slice 33, 1, 24, .slice none 0 0⟩
theorem u57 : (Try.prog.underlying 57).map tdOf = some e57.td := by kernel_rfl
theorem i57 : (Try.prog.info? 57).map (fun i => (i.zero, i.size, i.bytes)) = some (some e57.zero, e57.size, e57.bytes) := by kernel_rfl
abbrev e58 : TE := ⟨.func, 1, 8, .nilFunc⟩
theorem u58 : (Try.prog.underlying 58).map tdOf = some e58.td := by kernel_rfl
theorem i58 : (Try.prog.info? 58).map (fun i => (i.zero, i.size, i.bytes)) = some (some e58.zero, e58.size, e58.bytes) := by kernel_rfl
abbrev e59 : TE := ⟨.map 3 62, 1, 8, .map none⟩
theorem u59 : (Try.prog.underlying 59).map tdOf = some e59.td := by kernel_rfl
theorem i59 : (Try.prog.info? 59).map (fun i => (i.zero, i.size, i.bytes)) = some (some e59.zero, e59.size, e59.bytes) := by kernel_rfl
abbrev e60 : TE := ⟨.struct [(59, 0)], 1, 8, .agg #[.map none]⟩
theorem u60 : (Try.prog.underlying 60).map tdOf = some e60.td := by kernel_rfl
theorem i60 : (Try.prog.info? 60).map (fun i => (i.zero, i.size, i.bytes)) = some (some e60.zero, e60.size, e60.bytes) := by kernel_rfl
abbrev e61 : TE := ⟨.struct [(59, 0)], 1, 8, .agg #[.map none]⟩
theorem u61 : (Try.prog.underlying 61).map tdOf = some e61.td := by kernel_rfl
theorem i61 : (Try.prog.info? 61).map (fun i => (i.zero, i.size, i.bytes)) = some (some e61.zero, e61.size, e61.bytes) := by kernel_rfl
abbrev e62 : TE := ⟨.map 3 28, 1, 8, .map none⟩
theorem u62 : (Try.prog.underlying 62).map tdOf = some e62.td := by kernel_rfl
theorem i62 : (Try.prog.info? 62).map (fun i => (i.zero, i.size, i.bytes)) = some (some e62.zero, e62.size, e62.bytes) := by kernel_rfl
abbrev e64 : TE := ⟨.func, 1, 8, .nilFunc⟩
theorem u64 : (Try.prog.underlying 64).map tdOf = some e64.td := by kernel_rfl
theorem i64 : (Try.prog.info? 64).map (fun i => (i.zero, i.size, i.bytes)) = some (some e64.zero, e64.size, e64.bytes) := by kernel_rfl
abbrev e65 : TE := ⟨.func, 1, 8, .nilFunc⟩
theorem u65 : (Try.prog.underlying 65).map tdOf = some e65.td := by kernel_rfl
theorem i65 : (Try.prog.info? 65).map (fun i => (i.zero, i.size, i.bytes)) = some (some e65.zero, e65.size, e65.bytes) := by kernel_rfl
abbrev e66 : TE := ⟨.func, 1, 8, .nilFunc⟩
theorem u66 : (Try.prog.underlying 66).map tdOf = some e66.td := by kernel_rfl
theorem i66 : (Try.prog.info? 66).map (fun i => (i.zero, i.size, i.bytes)) = some (some e66.zero, e66.size, e66.bytes) := by kernel_rfl
abbrev e67 : TE := ⟨.func, 1, 8, .nilFunc⟩
theorem u67 : (Try.prog.underlying 67).map tdOf = some e67.td := by kernel_rfl
theorem i67 : (Try.prog.info? 67).map (fun i => (i.zero, i.size, i.bytes)) = some (some e67.zero, e67.size, e67.bytes) := by kernel_rfl
abbrev e68 : TE := ⟨.func, 1, 8, .nilFunc⟩
theorem u68 : (Try.prog.underlying 68).map tdOf = some e68.td := by kernel_rfl
theorem i68 : (Try.prog.info? 68).map (fun i => (i.zero, i.size, i.bytes)) = some (some e68.zero, e68.size, e68.bytes) := by kernel_rfl
abbrev e69 : TE := ⟨.func, 1, 8, .nilFunc⟩
theorem u69 : (Try.prog.underlying 69).map tdOf = some e69.td := by kernel_rfl
theorem i69 : (Try.prog.info? 69).map (fun i => (i.zero, i.size, i.bytes)) = some (some e69.zero, e69.size, e69.bytes) := by kernel_rfl
abbrev e70 : TE := ⟨.func, 1, 8, .nilFunc⟩
theorem u70 : (Try.prog.underlying 70).map tdOf = some e70.td := by kernel_rfl
theorem i70 : (Try.prog.info? 70).map (fun i => (i.zero, i.size, i.bytes)) = some (some e70.zero, e70.size, e70.bytes) := by kernel_rfl
abbrev e71 : TE := ⟨.func, 1, 8, .nilFunc⟩
theorem u71 : (Try.prog.underlying 71).map tdOf = some e71.td := by kernel_rfl
theorem i71 : (Try.prog.info? 71).map (fun i => (i.zero, i.size, i.bytes)) = some (some e71.zero, e71.size, e71.bytes) := by kernel_rfl
abbrev e72 : TE := ⟨.func, 1, 8, .nilFunc⟩
theorem u72 : (Try.prog.underlying 72).map tdOf = some e72.td := by kernel_rfl
theorem i72 : (Try.prog.info? 72).map (fun i => (i.zero, i.size, i.bytes)) = some (some e72.zero, e72.size, e72.bytes) := by kernel_rfl
abbrev e74 : TE := ⟨.func, 1, 8, .nilFunc⟩
theorem u74 : (Try.prog.underlying 74).map tdOf = some e74.td := by kernel_rfl
theorem i74 : (Try.prog.info? 74).map (fun i => (i.zero, i.size, i.bytes)) = some (some e74.zero, e74.size, e74.bytes) := by kernel_rfl
abbrev e75 : TE := ⟨.func, 1, 8, .nilFunc⟩
theorem u75 : (Try.prog.underlying 75).map tdOf = some e75.td := by kernel_rfl
theorem i75 : (Try.prog.info? 75).map (fun i => (i.zero, i.size, i.bytes)) = some (some e75.zero, e75.size, e75.bytes) := by kernel_rfl
abbrev e76 : TE := ⟨.func, 1, 8, .nilFunc⟩
theorem u76 : (Try.prog.underlying 76).map tdOf = some e76.td := by kernel_rfl
theorem i76 : (Try.prog.info? 76).map (fun i => (i.zero, i.size, i.bytes)) = some (some e76.zero, e76.size, e76.bytes) := by kernel_rfl
abbrev e77 : TE := ⟨.func, 1, 8, .nilFunc⟩
theorem u77 : (Try.prog.underlying 77).map tdOf = some e77.td := by kernel_rfl
theorem i77 : (Try.prog.info? 77).map (fun i => (i.zero, i.size, i.bytes)) = some (some e77.zero, e77.size, e77.bytes) := by kernel_rfl
abbrev e78 : TE := ⟨.int .u64, 1, 8, .int .u64 0⟩
theorem u78 : (Try.prog.underlying 78).map tdOf = some e78.td := by kernel_rfl
theorem i78 : (Try.prog.info? 78).map (fun i => (i.zero, i.size, i.bytes)) = some (some e78.zero, e78.size, e78.bytes) := by kernel_rfl
abbrev e79 : TE := ⟨.func, 1, 8, .nilFunc⟩
theorem u79 : (Try.prog.underlying 79).map tdOf = some e79.td := by kernel_rfl
theorem i79 : (Try.prog.info? 79).map (fun i => (i.zero, i.size, i.bytes)) = some (some e79.zero, e79.size, e79.bytes) := by kernel_rfl
abbrev e80 : TE := ⟨.func, 1, 8, .nilFunc⟩
theorem u80 : (Try.prog.underlying 80).map tdOf = some e80.td := by kernel_rfl
theorem i80 : (Try.prog.info? 80).map (fun i => (i.zero, i.size, i.bytes)) = some (some e80.zero, e80.size, e80.bytes) := by kernel_rfl
abbrev e81 : TE := ⟨.int .i64, 1, 8, .int .i64 0⟩
theorem u81 : (Try.prog.underlying 81).map tdOf = some e81.td := by kernel_rfl
theorem i81 : (Try.prog.info? 81).map (fun i => (i.zero, i.size, i.bytes)) = some (some e81.zero, e81.size, e81.bytes) := by kernel_rfl
abbrev e83 : TE := ⟨.func, 1, 8, .nilFunc⟩
theorem u83 : (Try.prog.underlying 83).map tdOf = some e83.td := by kernel_rfl
theorem i83 : (Try.prog.info? 83).map (fun i => (i.zero, i.size, i.bytes)) = some (some e83.zero, e83.size, e83.bytes) := by kernel_rfl
abbrev e84 : TE := ⟨.func, 1, 8, .nilFunc⟩
theorem u84 : (Try.prog.underlying 84).map tdOf = some e84.td := by kernel_rfl
theorem i84 : (Try.prog.info? 84).map (fun i => (i.zero, i.size, i.bytes)) = some (some e84.zero, e84.size, e84.bytes) := by kernel_rfl
abbrev e85 : TE := ⟨.func, 1, 8, .nilFunc⟩
theorem u85 : (Try.prog.underlying 85).map tdOf = some e85.td := by kernel_rfl
theorem i85 : (Try.prog.info? 85).map (fun i => (i.zero, i.size, i.bytes)) = some (some e85.zero, e85.size, e85.bytes) := by kernel_rfl
abbrev e86 : TE := ⟨.func, 1, 8, .nilFunc⟩
theorem u86 : (Try.prog.underlying 86).map tdOf = some e86.td := by kernel_rfl
theorem i86 : (Try.prog.info? 86).map (fun i => (i.zero, i.size, i.bytes)) = some (some e86.zero, e86.size, e86.bytes) := by kernel_rfl
abbrev e88 : TE := ⟨.func, 1, 8, .nilFunc⟩
theorem u88 : (Try.prog.underlying 88).map tdOf = some e88.td := by kernel_rfl
theorem i88 : (Try.prog.info? 88).map (fun i => (i.zero, i.size, i.bytes)) = some (some e88.zero, e88.size, e88.bytes) := by kernel_rfl
abbrev e89 : TE := ⟨.func, 1, 8, .nilFunc⟩
theorem u89 : (Try.prog.underlying 89).map tdOf = some e89.td := by kernel_rfl
theorem i89 : (Try.prog.info? 89).map (fun i => (i.zero, i.size, i.bytes)) = some (some e89.zero, e89.size, e89.bytes) := by kernel_rfl
abbrev e90 : TE := ⟨.int .u32, 1, 4, .int .u32 0⟩
theorem u90 : (Try.prog.underlying 90).map tdOf = some e90.td := by kernel_rfl
theorem i90 : (Try.prog.info? 90).map (fun i => (i.zero, i.size, i.bytes)) = some (some e90.zero, e90.size, e90.bytes) := by kernel_rfl
abbrev e91 : TE := ⟨.func, 1, 8, .nilFunc⟩
theorem u91 : (Try.prog.underlying 91).map tdOf = some e91.td := by kernel_rfl
theorem i91 : (Try.prog.info? 91).map (fun i => (i.zero, i.size, i.bytes)) = some (some e91.zero, e91.size, e91.bytes) := by kernel_rfl
abbrev e92 : TE := ⟨.int .u64, 1, 8, .int .u64 0⟩
theorem u92 : (Try.prog.underlying 92).map tdOf = some e92.td := by kernel_rfl
theorem i92 : (Try.prog.info? 92).map (fun i => (i.zero, i.size, i.bytes)) = some (some e92.zero, e92.size, e92.bytes) := by kernel_rfl
abbrev e93 : TE := ⟨.func, 1, 8, .nilFunc⟩
theorem u93 : (Try.prog.underlying 93).map tdOf = some e93.td := by kernel_rfl
theorem i93 : (Try.prog.info? 93).map (fun i => (i.zero, i.size, i.bytes)) = some (some e93.zero, e93.size, e93.bytes) := by kernel_rfl
abbrev e94 : TE := ⟨.int .u64, 1, 8, .int .u64 0⟩
theorem u94 : (Try.prog.underlying 94).map tdOf = some e94.td := by kernel_rfl
theorem i94 : (Try.prog.info? 94).map (fun i => (i.zero, i.size, i.bytes)) = some (some e94.zero, e94.size, e94.bytes) := by kernel_rfl
abbrev e95 : TE := ⟨.func, 1, 8, .nilFunc⟩
theorem u95 : (Try.prog.underlying 95).map tdOf = some e95.td := by kernel_rfl
theorem i95 : (Try.prog.info? 95).map (fun i => (i.zero, i.size, i.bytes)) = some (some e95.zero, e95.size, e95.bytes) := by kernel_rfl
abbrev e96 : TE := ⟨.func, 1, 8, .nilFunc⟩
theorem u96 : (Try.prog.underlying 96).map tdOf = some e96.td := by kernel_rfl
theorem i96 : (Try.prog.info? 96).map (fun i => (i.zero, i.size, i.bytes)) = some (some e96.zero, e96.size, e96.bytes) := by kernel_rfl
abbrev e97 : TE := ⟨.func, 1, 8, .nilFunc⟩
theorem u97 : (Try.prog.underlying 97).map tdOf = some e97.td := by kernel_rfl
theorem i97 : (Try.prog.info? 97).map (fun i => (i.zero, i.size, i.bytes)) = some (some e97.zero, e97.size, e97.bytes) := by kernel_rfl
abbrev e98 : TE := ⟨.ptr 3, 1, 8, .pointer none⟩
theorem u98 : (Try.prog.underlying 98).map tdOf = some e98.td := by kernel_rfl
theorem i98 : (Try.prog.info? 98).map (fun i => (i.zero, i.size, i.bytes)) = some (some e98.zero, e98.size, e98.bytes) := by kernel_rfl
abbrev e99 : TE := ⟨.func, 1, 8, .nilFunc⟩
theorem u99 : (Try.prog.underlying 99).map tdOf = some e99.td := by kernel_rfl
theorem i99 : (Try.prog.info? 99).map (fun i => (i.zero, i.size, i.bytes)) = some (some e99.zero, e99.size, e99.bytes) := by kernel_rfl
abbrev e100 : TE := ⟨.ptr 94, 1, 8, .pointer none⟩
theorem u100 : (Try.prog.underlying 100).map tdOf = some e100.td := by kernel_rfl
theorem i100 : (Try.prog.info? 100).map (fun i => (i.zero, i.size, i.bytes)) = some (some e100.zero, e100.size, e100.bytes) := by kernel_rfl
abbrev e102 : TE := ⟨.func, 1, 8, .nilFunc⟩
theorem u102 : (Try.prog.underlying 102).map tdOf = some e102.td := by kernel_rfl
theorem i102 : (Try.prog.info? 102).map (fun i => (i.zero, i.size, i.bytes)) = some (some e102.zero, e102.size, e102.bytes) := by kernel_rfl
abbrev e103 : TE := ⟨.func, 1, 8, .nilFunc⟩
theorem u103 : (Try.prog.underlying 103).map tdOf = some e103.td := by kernel_rfl
theorem i103 : (Try.prog.info? 103).map (fun i => (i.zero, i.size, i.bytes)) = some (some e103.zero, e103.size, e103.bytes) := by kernel_rfl
abbrev e109 : TE := ⟨.func, 1, 8, .nilFunc⟩
theorem u109 : (Try.prog.underlying 109).map tdOf = some e109.td := by kernel_rfl
theorem i109 : (Try.prog.info? 109).map (fun i => (i.zero, i.size, i.bytes)) = some (some e109.zero, e109.size, e109.bytes) := by kernel_rfl
abbrev e112 : TE := ⟨.func, 1, 8, .nilFunc⟩
theorem u112 : (Try.prog.underlying 112).map tdOf = some e112.td := by kernel_rfl
theorem i112 : (Try.prog.info? 112).map (fun i => (i.zero, i.size, i.bytes)) = some (some e112.zero, e112.size, e112.bytes) := by kernel_rfl
abbrev e113 : TE := ⟨.ptr 5, 1, 8, .pointer none⟩
theorem u113 : (Try.prog.underlying 113).map tdOf = some e113.td := by kernel_rfl
theorem i113 : (Try.prog.info? 113).map (fun i => (i.zero, i.size, i.bytes)) = some (some e113.zero, e113.size, e113.bytes) := by kernel_rfl
abbrev e118 : TE := ⟨.other, 1, 8, .pointer none⟩
theorem u118 : (Try.prog.underlying 118).map tdOf = some e118.td := by kernel_rfl
theorem i118 : (Try.prog.info? 118).map (fun i => (i.zero, i.size, i.bytes)) = some (some e118.zero, e118.size, e118.bytes) := by kernel_rfl
abbrev tabL : List (Nat × TE) := [(1, ⟨.func, 1, 8, .nilFunc⟩), (2, ⟨.int .i64, 1, 8, .int .i64 0⟩), (3, ⟨.int .i64, 1, 8, .int .i64 0⟩), (4, ⟨.bool, 1, 1, .bool false⟩), (5, ⟨.int .u8, 1, 1, .int .u8 0⟩), (9, ⟨.string, 1, 16, .string ⟨#[]⟩⟩), (12, ⟨.int .u64, 1, 8, .int .u64 0⟩), (13, ⟨.struct [(9, 0), (12, 1)], 2, 24, .agg #[.string ⟨#[]⟩, .int .u64 0]⟩), (20, ⟨.iface, 1, 16, .nilIface⟩), (21, ⟨.int .i32, 1, 4, .int .i32 0⟩), (22, ⟨.slice 30, 1, 24, .slice none 0 0⟩), (23, ⟨.slice 28, 1, 24, .slice none 0 0⟩), (24, ⟨.func, 1, 8, .nilFunc⟩), (25, ⟨.ptr 61, 1, 8, .pointer none⟩), (26, ⟨.func, 1, 8, .nilFunc⟩), (27, ⟨.struct [(3, 0), (3, 1), (3, 2)], 3, 24, .agg #[.int .i64 0, .int .i64 0, .int .i64 0]⟩), (28, ⟨.struct [(3, 0), (3, 1), (3, 2)], 3, 24, .agg #[.int .i64 0, .int .i64 0, .int .i64 0]⟩), (29, ⟨.struct [(28, 0), (4, 3)], 4, 32, .agg #[.int .i64 0, .int .i64 0, .int .i64 0, .bool false]⟩), (30, ⟨.struct [(28, 0), (4, 3)], 4, 32, .agg #[.int .i64 0, .int .i64 0, .int .i64 0, .bool false]⟩), (31, ⟨.int .i64, 1, 8, .int .i64 0⟩), (32, ⟨.func, 1, 8, .nilFunc⟩), (33, ⟨.slice 3, 1, 24, .slice none 0 0⟩), (34, ⟨.func, 1, 8, .nilFunc⟩), (35, ⟨.func, 1, 8, .nilFunc⟩), (36, ⟨.func, 1, 8, .nilFunc⟩), (37, ⟨.func, 1, 8, .nilFunc⟩), (38, ⟨.func, 1, 8, .nilFunc⟩), (39, ⟨.func, 1, 8, .nilFunc⟩), (40, ⟨.func, 1, 8, .nilFunc⟩), (41, ⟨.func, 1, 8, .nilFunc⟩), (42, ⟨.func, 1, 8, .nilFunc⟩), (43, ⟨.func, 1, 8, .nilFunc⟩), (44, ⟨.slice 22, 1, 24, .slice none 0 0⟩), (45, ⟨.func, 1, 8, .nilFunc⟩), (46, ⟨.func, 1, 8, .nilFunc⟩), (47, ⟨.slice 54, 1, 24, .slice none 0 0⟩), (48, ⟨.ptr 52, 1, 8, .pointer none⟩), (49, ⟨.arr 4 22, 4, 96, .agg #[.slice none 0 0, .slice none 0 0, .slice none 0 0, .slice none 0 0]⟩), (50, ⟨.arr 4 4, 4, 4, .agg #[.bool false, .bool false, .bool false, .bool false]⟩), (51, ⟨.struct [(49, 0), (50, 4)], 8, 104, .agg #[.slice none 0 0, .slice none 0 0, .slice none 0 0, .slice none 0 0, .bool false, .bool false, .bool false, .bool false]⟩), (52, ⟨.struct [(49, 0), (50, 4)], 8, 104, .agg #[.slice none 0 0, .slice none 0 0, .slice none 0 0, .slice none 0 0, .bool false, .bool false, .bool false, .bool false]⟩), (53, ⟨.struct [(3, 0), (3, 1), (22, 2), (23, 3), (28, 4), (3, 7)], 8, 96, .agg #[.int .i64 0, .int .i64 0, .slice none 0 0, .slice none 0 0, .int .i64 0, .int .i64 0, .int .i64 0, .int .i64 0]⟩), (54, ⟨.struct [(3, 0), (3, 1), (22, 2), (23, 3), (28, 4), (3, 7)], 8, 96, .agg #[.int .i64 0, .int .i64 0, .slice none 0 0, .slice none 0 0, .int .i64 0, .int .i64 0, .int .i64 0, .int .i64 0]⟩), (55, ⟨.func, 1, 8, .nilFunc⟩), (56, ⟨.func, 1, 8, .nilFunc⟩), (57, ⟨.slice 33, 1, 24, .slice none 0 0⟩), (58, ⟨.func, 1, 8, .nilFunc⟩), (59, ⟨.map 3 62, 1, 8, .map none⟩), (60, ⟨.struct [(59, 0)], 1, 8, .agg #[.map none]⟩), (61, ⟨.struct [(59, 0)], 1, 8, .agg #[.map none]⟩), (62, ⟨.map 3 28, 1, 8, .map none⟩), (64, ⟨.func, 1, 8, .nilFunc⟩), (65, ⟨.func, 1, 8, .nilFunc⟩), (66, ⟨.func, 1, 8, .nilFunc⟩), (67, ⟨.func, 1, 8, .nilFunc⟩), (68, ⟨.func, 1, 8, .nilFunc⟩), (69, ⟨.func, 1, 8, .nilFunc⟩), (70, ⟨.func, 1, 8, .nilFunc⟩), (71, ⟨.func, 1, 8, .nilFunc⟩), (72, ⟨.func, 1, 8, .nilFunc⟩), (74, ⟨.func, 1, 8, .nilFunc⟩), (75, ⟨.func, 1, 8, .nilFunc⟩), (76, ⟨.func, 1, 8, .nilFunc⟩), (77, ⟨.func, 1, 8, .nilFunc⟩), (78, ⟨.int .u64, 1, 8, .int .u64 0⟩), (79, ⟨.func, 1, 8, .nilFunc⟩), (80, ⟨.func, 1, 8, .nilFunc⟩), (81, ⟨.int .i64, 1, 8, .int .i64 0⟩), (83, ⟨.func, 1, 8, .nilFunc⟩), (84, ⟨.func, 1, 8, .nilFunc⟩), (85, ⟨.func, 1, 8, .nilFunc⟩), (86, ⟨.func, 1, 8, .nilFunc⟩), (88, ⟨.func, 1, 8, .nilFunc⟩), (89, ⟨.func, 1, 8, .nilFunc⟩), (90, ⟨.int .u32, 1, 4, .int .u32 0⟩), (91, ⟨.func, 1, 8, .nilFunc⟩), (92, ⟨.int .u64, 1, 8, .int .u64 0⟩), (93, ⟨.func, 1, 8, .nilFunc⟩), (94, ⟨.int .u64, 1, 8, .int .u64 0⟩), (95, ⟨.func, 1, 8, .nilFunc⟩), (96, ⟨.func, 1, 8, .nilFunc⟩), (97, ⟨.func, 1, 8, .nilFunc⟩), (98, ⟨.ptr 3, 1, 8, .pointer none⟩), (99, ⟨.func, 1, 8, .nilFunc⟩), (100, ⟨.ptr 94, 1, 8, .pointer none⟩), (102, ⟨.func, 1, 8, .nilFunc⟩), (103, ⟨.func, 1, 8, .nilFunc⟩), (109, ⟨.func, 1, 8, .nilFunc⟩), (112, ⟨.func, 1, 8, .nilFunc⟩), (113, ⟨.ptr 5, 1, 8, .pointer none⟩), (118, ⟨.other, 1, 8, .pointer none⟩)]
theorem tabL_u : ∀ x ∈ tabL, (Try.prog.underlying x.1).map tdOf = some x.2.td := by
  intro x hx
  simp only [tabL, List.mem_cons, List.not_mem_nil, or_false] at hx
  rcases hx with rfl | rfl | rfl | rfl | rfl | rfl | rfl | rfl | rfl | rfl | rfl | rfl | rfl | rfl | rfl | rfl | rfl | rfl | rfl | rfl | rfl | rfl | rfl | rfl | rfl | rfl | rfl | rfl | rfl | rfl | rfl | rfl | rfl | rfl | rfl | rfl | rfl | rfl | rfl | rfl | rfl | rfl | rfl | rfl | rfl | rfl | rfl | rfl | rfl | rfl | rfl | rfl | rfl | rfl | rfl | rfl | rfl | rfl | rfl | rfl | rfl | rfl | rfl | rfl | rfl | rfl | rfl | rfl | rfl | rfl | rfl | rfl | rfl | rfl | rfl | rfl | rfl | rfl | rfl | rfl | rfl | rfl | rfl | rfl | rfl | rfl | rfl | rfl | rfl | rfl | rfl
  · exact u1
  · exact u2
  · exact u3
  · exact u4
  · exact u5
  · exact u9
  · exact u12
  · exact u13
  · exact u20
  · exact u21
  · exact u22
  · exact u23
  · exact u24
  · exact u25
  · exact u26
  · exact u27
  · exact u28
  · exact u29
  · exact u30
  · exact u31
  · exact u32
  · exact u33
  · exact u34
  · exact u35
  · exact u36
  · exact u37
  · exact u38
  · exact u39
  · exact u40
  · exact u41
  · exact u42
  · exact u43
  · exact u44
  · exact u45
  · exact u46
  · exact u47
  · exact u48
  · exact u49
  · exact u50
  · exact u51
  · exact u52
  · exact u53
  · exact u54
  · exact u55
  · exact u56
  · exact u57
  · exact u58
  · exact u59
  · exact u60
  · exact u61
  · exact u62
  · exact u64
  · exact u65
  · exact u66
  · exact u67
  · exact u68
  · exact u69
  · exact u70
  · exact u71
  · exact u72
  · exact u74
  · exact u75
  · exact u76
  · exact u77
  · exact u78
  · exact u79
  · exact u80
  · exact u81
  · exact u83
  · exact u84
  · exact u85
  · exact u86
  · exact u88
  · exact u89
  · exact u90
  · exact u91
  · exact u92
  · exact u93
  · exact u94
  · exact u95
  · exact u96
  · exact u97
  · exact u98
  · exact u99
  · exact u100
  · exact u102
  · exact u103
  · exact u109
  · exact u112
  · exact u113
  · exact u118
theorem tabL_i : ∀ x ∈ tabL, (Try.prog.info? x.1).map (fun i => (i.zero, i.size, i.bytes)) = some (some x.2.zero, x.2.size, x.2.bytes) := by
  intro x hx
  simp only [tabL, List.mem_cons, List.not_mem_nil, or_false] at hx
  rcases hx with rfl | rfl | rfl | rfl | rfl | rfl | rfl | rfl | rfl | rfl | rfl | rfl | rfl | rfl | rfl | rfl | rfl | rfl | rfl | rfl | rfl | rfl | rfl | rfl | rfl | rfl | rfl | rfl | rfl | rfl | rfl | rfl | rfl | rfl | rfl | rfl | rfl | rfl | rfl | rfl | rfl | rfl | rfl | rfl | rfl | rfl | rfl | rfl | rfl | rfl | rfl | rfl | rfl | rfl | rfl | rfl | rfl | rfl | rfl | rfl | rfl | rfl | rfl | rfl | rfl | rfl | rfl | rfl | rfl | rfl | rfl | rfl | rfl | rfl | rfl | rfl | rfl | rfl | rfl | rfl | rfl | rfl | rfl | rfl | rfl | rfl | rfl | rfl | rfl | rfl | rfl
  · exact i1
  · exact i2
  · exact i3
  · exact i4
  · exact i5
  · exact i9
  · exact i12
  · exact i13
  · exact i20
  · exact i21
  · exact i22
  · exact i23
  · exact i24
  · exact i25
  · exact i26
  · exact i27
  · exact i28
  · exact i29
  · exact i30
  · exact i31
  · exact i32
  · exact i33
  · exact i34
  · exact i35
  · exact i36
  · exact i37
  · exact i38
  · exact i39
  · exact i40
  · exact i41
  · exact i42
  · exact i43
  · exact i44
  · exact i45
  · exact i46
  · exact i47
  · exact i48
  · exact i49
  · exact i50
  · exact i51
  · exact i52
  · exact i53
  · exact i54
  · exact i55
  · exact i56
  · exact i57
  · exact i58
  · exact i59
  · exact i60
  · exact i61
  · exact i62
  · exact i64
  · exact i65
  · exact i66
  · exact i67
  · exact i68
  · exact i69
  · exact i70
  · exact i71
  · exact i72
  · exact i74
  · exact i75
  · exact i76
  · exact i77
  · exact i78
  · exact i79
  · exact i80
  · exact i81
  · exact i83
  · exact i84
  · exact i85
  · exact i86
  · exact i88
  · exact i89
  · exact i90
  · exact i91
  · exact i92
  · exact i93
  · exact i94
  · exact i95
  · exact i96
  · exact i97
  · exact i98
  · exact i99
  · exact i100
  · exact i102
  · exact i103
  · exact i109
  · exact i112
  · exact i113
  · exact i118
abbrev TT : Tab Try.prog := ⟨tabL, tabL_u, tabL_i⟩
theorem cmp27 : CmpT Try.prog 27 := ⟨by kernel_rfl, by kernel_rfl, by kernel_rfl, fun f hf => by
  have h : (Try.prog.fieldsOf 27).toList.all (fun f => f.name != "_") = true := by kernel_rfl
  have := List.all_eq_true.1 h f hf
  simpa using this⟩
theorem cmp28 : CmpT Try.prog 28 := ⟨by kernel_rfl, by kernel_rfl, by kernel_rfl, fun f hf => by
  have h : (Try.prog.fieldsOf 28).toList.all (fun f => f.name != "_") = true := by kernel_rfl
  have := List.all_eq_true.1 h f hf
  simpa using this⟩
theorem mixed : Try.prog.follows .mixedOrders = true := by kernel_rfl
theorem c3 : Callable Try.prog 3 := Callable.of Try.func3 (by kernel_rfl) rfl
theorem c4 : Callable Try.prog 4 := Callable.of Try.func4 (by kernel_rfl) rfl
theorem c5 : Callable Try.prog 5 := Callable.of Try.func5 (by kernel_rfl) rfl
theorem c6 : Callable Try.prog 6 := Callable.of Try.func6 (by kernel_rfl) rfl
theorem c7 : Callable Try.prog 7 := Callable.of Try.func7 (by kernel_rfl) rfl
theorem c8 : Callable Try.prog 8 := Callable.of Try.func8 (by kernel_rfl) rfl
theorem c9 : Callable Try.prog 9 := Callable.of Try.func9 (by kernel_rfl) rfl
theorem c10 : Callable Try.prog 10 := Callable.of Try.func10 (by kernel_rfl) rfl
theorem c11 : Callable Try.prog 11 := Callable.of Try.func11 (by kernel_rfl) rfl
theorem c12 : Callable Try.prog 12 := Callable.of Try.func12 (by kernel_rfl) rfl
theorem c13 : Callable Try.prog 13 := Callable.of Try.func13 (by kernel_rfl) rfl
theorem c14 : Callable Try.prog 14 := Callable.of Try.func14 (by kernel_rfl) rfl
theorem c15 : Callable Try.prog 15 := Callable.of Try.func15 (by kernel_rfl) rfl
theorem c16 : Callable Try.prog 16 := Callable.of Try.func16 (by kernel_rfl) rfl
theorem c17 : Callable Try.prog 17 := Callable.of Try.func17 (by kernel_rfl) rfl
theorem c18 : Callable Try.prog 18 := Callable.of Try.func18 (by kernel_rfl) rfl
theorem c19 : Callable Try.prog 19 := Callable.of Try.func19 (by kernel_rfl) rfl
theorem c20 : Callable Try.prog 20 := Callable.of Try.func20 (by kernel_rfl) rfl
theorem c21 : Callable Try.prog 21 := Callable.of Try.func21 (by kernel_rfl) rfl
theorem c22 : Callable Try.prog 22 := Callable.of Try.func22 (by kernel_rfl) rfl
theorem c23 : Callable Try.prog 23 := Callable.of Try.func23 (by kernel_rfl) rfl
theorem c24 : Callable Try.prog 24 := Callable.of Try.func24 (by kernel_rfl) rfl
theorem c25 : Callable Try.prog 25 := Callable.of Try.func25 (by kernel_rfl) rfl
theorem c26 : Callable Try.prog 26 := Callable.of Try.func26 (by kernel_rfl) rfl
theorem c27 : Callable Try.prog 27 := Callable.of Try.func27 (by kernel_rfl) rfl
theorem c28 : Callable Try.prog 28 := Callable.of Try.func28 (by kernel_rfl) rfl
theorem c29 : Callable Try.prog 29 := Callable.of Try.func29 (by kernel_rfl) rfl
theorem c30 : Callable Try.prog 30 := Callable.of Try.func30 (by kernel_rfl) rfl
theorem c31 : Callable Try.prog 31 := Callable.of Try.func31 (by kernel_rfl) rfl
theorem c32 : Callable Try.prog 32 := Callable.of Try.func32 (by kernel_rfl) rfl
theorem c33 : Callable Try.prog 33 := Callable.of Try.func33 (by kernel_rfl) rfl
theorem c34 : Callable Try.prog 34 := Callable.of Try.func34 (by kernel_rfl) rfl
theorem c35 : Callable Try.prog 35 := Callable.of Try.func35 (by kernel_rfl) rfl
theorem c36 : Callable Try.prog 36 := Callable.of Try.func36 (by kernel_rfl) rfl
theorem c37 : Callable Try.prog 37 := Callable.of Try.func37 (by kernel_rfl) rfl
theorem c38 : Callable Try.prog 38 := Callable.of Try.func38 (by kernel_rfl) rfl
theorem c39 : Callable Try.prog 39 := Callable.of Try.func39 (by kernel_rfl) rfl
theorem c40 : Callable Try.prog 40 := Callable.of Try.func40 (by kernel_rfl) rfl
theorem c41 : Callable Try.prog 41 := Callable.of Try.func41 (by kernel_rfl) rfl
theorem c42 : Callable Try.prog 42 := Callable.of Try.func42 (by kernel_rfl) rfl
theorem c43 : Callable Try.prog 43 := Callable.of Try.func43 (by kernel_rfl) rfl
theorem c44 : Callable Try.prog 44 := Callable.of Try.func44 (by kernel_rfl) rfl
theorem c45 : Callable Try.prog 45 := Callable.of Try.func45 (by kernel_rfl) rfl
theorem c46 : Callable Try.prog 46 := Callable.of Try.func46 (by kernel_rfl) rfl
theorem c47 : Callable Try.prog 47 := Callable.of Try.func47 (by kernel_rfl) rfl
theorem c48 : Callable Try.prog 48 := Callable.of Try.func48 (by kernel_rfl) rfl
theorem c49 : Callable Try.prog 49 := Callable.of Try.func49 (by kernel_rfl) rfl
theorem c50 : Callable Try.prog 50 := Callable.of Try.func50 (by kernel_rfl) rfl
theorem c51 : Callable Try.prog 51 := Callable.of Try.func51 (by kernel_rfl) rfl
theorem c52 : Callable Try.prog 52 := Callable.of Try.func52 (by kernel_rfl) rfl
theorem c53 : Callable Try.prog 53 := Callable.of Try.func53 (by kernel_rfl) rfl
theorem c54 : Callable Try.prog 54 := Callable.of Try.func54 (by kernel_rfl) rfl
theorem c55 : Callable Try.prog 55 := Callable.of Try.func55 (by kernel_rfl) rfl
theorem c56 : Callable Try.prog 56 := Callable.of Try.func56 (by kernel_rfl) rfl
theorem c57 : Callable Try.prog 57 := Callable.of Try.func57 (by kernel_rfl) rfl
theorem c58 : Callable Try.prog 58 := Callable.of Try.func58 (by kernel_rfl) rfl
theorem c59 : Callable Try.prog 59 := Callable.of Try.func59 (by kernel_rfl) rfl
end Go.Proofs.Ytgebdehpoalfbaa.B
