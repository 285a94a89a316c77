import Derived.Test.YtejdkcnbflpfaaaMg7
import Derived.Test.YtejdkcnbflpfaaaProg
import Derived.KernelRfl
set_option linter.unusedVariables false
set_option maxRecDepth 100000
/-! The table of types, and what a call enters. Laid by wip/gentab.py. -/
namespace Go.Proofs.Ytejdkcnbflpfaaa.B
open Go Go.Proofs
abbrev e1 : TE := ⟨.func, 1, 8, .nilFunc⟩
theorem u1 : (Try.prog.underlying 1).map tdOf = some e1.td := by kernel_rfl
theorem i1 : (Try.prog.info? 1).map (fun i => (i.zero, i.size, i.bytes)) = some (some e1.zero, e1.size, e1.bytes) := by kernel_rfl
abbrev e2 : TE := ⟨.int .i64, 1, 8, .int .i64 0⟩
theorem u2 : (Try.prog.underlying 2).map tdOf = some e2.td := by kernel_rfl
theorem i2 : (Try.prog.info? 2).map (fun i => (i.zero, i.size, i.bytes)) = some (some e2.zero, e2.size, e2.bytes) := by kernel_rfl
abbrev e3 : TE := ⟨.int .i64, 1, 8, .int .i64 0⟩
theorem u3 : (Try.prog.underlying 3).map tdOf = some e3.td := by kernel_rfl
theorem i3 : (Try.prog.info? 3).map (fun i => (i.zero, i.size, i.bytes)) = some (some e3.zero, e3.size, e3.bytes) := by kernel_rfl
abbrev e4 : TE := ⟨.bool, 1, 1, .bool false⟩
theorem u4 : (Try.prog.underlying 4).map tdOf = some e4.td := by kernel_rfl
theorem i4 : (Try.prog.info? 4).map (fun i => (i.zero, i.size, i.bytes)) = some (some e4.zero, e4.size, e4.bytes) := by kernel_rfl
abbrev e5 : TE := ⟨.int .u8, 1, 1, .int .u8 0⟩
theorem u5 : (Try.prog.underlying 5).map tdOf = some e5.td := by kernel_rfl
theorem i5 : (Try.prog.info? 5).map (fun i => (i.zero, i.size, i.bytes)) = some (some e5.zero, e5.size, e5.bytes) := by kernel_rfl
abbrev e9 : TE := ⟨.string, 1, 16, .string ⟨#[]⟩⟩
theorem u9 : (Try.prog.underlying 9).map tdOf = some e9.td := by kernel_rfl
theorem i9 : (Try.prog.info? 9).map (fun i => (i.zero, i.size, i.bytes)) = some (some e9.zero, e9.size, e9.bytes) := by kernel_rfl
abbrev e12 : TE := ⟨.int .u64, 1, 8, .int .u64 0⟩
theorem u12 : (Try.prog.underlying 12).map tdOf = some e12.td := by kernel_rfl
theorem i12 : (Try.prog.info? 12).map (fun i => (i.zero, i.size, i.bytes)) = some (some e12.zero, e12.size, e12.bytes) := by kernel_rfl
abbrev e13 : TE := ⟨.struct [(9, 0), (12, 1)], 2, 24, .agg #[.string ⟨#[]⟩, .int .u64 0]⟩
theorem u13 : (Try.prog.underlying 13).map tdOf = some e13.td := by kernel_rfl
theorem i13 : (Try.prog.info? 13).map (fun i => (i.zero, i.size, i.bytes)) = some (some e13.zero, e13.size, e13.bytes) := by kernel_rfl
abbrev e20 : TE := ⟨.iface, 1, 16, .nilIface⟩
theorem u20 : (Try.prog.underlying 20).map tdOf = some e20.td := by kernel_rfl
theorem i20 : (Try.prog.info? 20).map (fun i => (i.zero, i.size, i.bytes)) = some (some e20.zero, e20.size, e20.bytes) := by kernel_rfl
abbrev e21 : TE := ⟨.int .i32, 1, 4, .int .i32 0⟩
theorem u21 : (Try.prog.underlying 21).map tdOf = some e21.td := by kernel_rfl
theorem i21 : (Try.prog.info? 21).map (fun i => (i.zero, i.size, i.bytes)) = some (some e21.zero, e21.size, e21.bytes) := by kernel_rfl
abbrev e22 : TE := ⟨.slice 24, 1, 24, .slice none 0 0⟩
theorem u22 : (Try.prog.underlying 22).map tdOf = some e22.td := by kernel_rfl
theorem i22 : (Try.prog.info? 22).map (fun i => (i.zero, i.size, i.bytes)) = some (some e22.zero, e22.size, e22.bytes) := by kernel_rfl
abbrev e23 : TE := ⟨.struct [(3, 0), (9, 1)], 2, 24, .agg #[.int .i64 0, .string ⟨#[]⟩]⟩
theorem u23 : (Try.prog.underlying 23).map tdOf = some e23.td := by kernel_rfl
theorem i23 : (Try.prog.info? 23).map (fun i => (i.zero, i.size, i.bytes)) = some (some e23.zero, e23.size, e23.bytes) := by kernel_rfl
abbrev e24 : TE := ⟨.struct [(3, 0), (9, 1)], 2, 24, .agg #[.int .i64 0, .string ⟨#[]⟩]⟩
theorem u24 : (Try.prog.underlying 24).map tdOf = some e24.td := by kernel_rfl
theorem i24 : (Try.prog.info? 24).map (fun i => (i.zero, i.size, i.bytes)) = some (some e24.zero, e24.size, e24.bytes) := by kernel_rfl
abbrev e25 : TE := ⟨.func, 1, 8, .nilFunc⟩
theorem u25 : (Try.prog.underlying 25).map tdOf = some e25.td := by kernel_rfl
theorem i25 : (Try.prog.info? 25).map (fun i => (i.zero, i.size, i.bytes)) = some (some e25.zero, e25.size, e25.bytes) := by kernel_rfl
abbrev e26 : TE := ⟨.int .i64, 1, 8, .int .i64 0⟩
theorem u26 : (Try.prog.underlying 26).map tdOf = some e26.td := by kernel_rfl
theorem i26 : (Try.prog.info? 26).map (fun i => (i.zero, i.size, i.bytes)) = some (some e26.zero, e26.size, e26.bytes) := by kernel_rfl
abbrev e28 : TE := ⟨.func, 1, 8, .nilFunc⟩
theorem u28 : (Try.prog.underlying 28).map tdOf = some e28.td := by kernel_rfl
theorem i28 : (Try.prog.info? 28).map (fun i => (i.zero, i.size, i.bytes)) = some (some e28.zero, e28.size, e28.bytes) := by kernel_rfl
abbrev e30 : TE := ⟨.func, 1, 8, .nilFunc⟩
theorem u30 : (Try.prog.underlying 30).map tdOf = some e30.td := by kernel_rfl
theorem i30 : (Try.prog.info? 30).map (fun i => (i.zero, i.size, i.bytes)) = some (some e30.zero, e30.size, e30.bytes) := by kernel_rfl
abbrev e31 : TE := ⟨.func, 1, 8, .nilFunc⟩
theorem u31 : (Try.prog.underlying 31).map tdOf = some e31.td := by kernel_rfl
theorem i31 : (Try.prog.info? 31).map (fun i => (i.zero, i.size, i.bytes)) = some (some e31.zero, e31.size, e31.bytes) := by kernel_rfl
abbrev e32 : TE := ⟨.func, 1, 8, .nilFunc⟩
theorem u32 : (Try.prog.underlying 32).map tdOf = some e32.td := by kernel_rfl
theorem i32 : (Try.prog.info? 32).map (fun i => (i.zero, i.size, i.bytes)) = some (some e32.zero, e32.size, e32.bytes) := by kernel_rfl
abbrev e33 : TE := ⟨.struct [(3, 0), (22, 1)], 2, 32, .agg #[.int .i64 0, .slice none 0 0]⟩
theorem u33 : (Try.prog.underlying 33).map tdOf = some e33.td := by kernel_rfl
theorem i33 : (Try.prog.info? 33).map (fun i => (i.zero, i.size, i.bytes)) = some (some e33.zero, e33.size, e33.bytes) := by kernel_rfl
abbrev e34 : TE := ⟨.struct [(3, 0), (22, 1)], 2, 32, .agg #[.int .i64 0, .slice none 0 0]⟩
theorem u34 : (Try.prog.underlying 34).map tdOf = some e34.td := by kernel_rfl
theorem i34 : (Try.prog.info? 34).map (fun i => (i.zero, i.size, i.bytes)) = some (some e34.zero, e34.size, e34.bytes) := by kernel_rfl
abbrev e36 : TE := ⟨.func, 1, 8, .nilFunc⟩
theorem u36 : (Try.prog.underlying 36).map tdOf = some e36.td := by kernel_rfl
theorem i36 : (Try.prog.info? 36).map (fun i => (i.zero, i.size, i.bytes)) = some (some e36.zero, e36.size, e36.bytes) := by kernel_rfl
abbrev e38 : TE := ⟨.func, 1, 8, .nilFunc⟩
theorem u38 : (Try.prog.underlying 38).map tdOf = some e38.td := by kernel_rfl
theorem i38 : (Try.prog.info? 38).map (fun i => (i.zero, i.size, i.bytes)) = some (some e38.zero, e38.size, e38.bytes) := by kernel_rfl
abbrev e39 : TE := ⟨.func, 1, 8, .nilFunc⟩
theorem u39 : (Try.prog.underlying 39).map tdOf = some e39.td := by kernel_rfl
theorem i39 : (Try.prog.info? 39).map (fun i => (i.zero, i.size, i.bytes)) = some (some e39.zero, e39.size, e39.bytes) := by kernel_rfl
abbrev e40 : TE := ⟨.func, 1, 8, .nilFunc⟩
theorem u40 : (Try.prog.underlying 40).map tdOf = some e40.td := by kernel_rfl
theorem i40 : (Try.prog.info? 40).map (fun i => (i.zero, i.size, i.bytes)) = some (some e40.zero, e40.size, e40.bytes) := by kernel_rfl
abbrev e41 : TE := ⟨.func, 1, 8, .nilFunc⟩
theorem u41 : (Try.prog.underlying 41).map tdOf = some e41.td := by kernel_rfl
theorem i41 : (Try.prog.info? 41).map (fun i => (i.zero, i.size, i.bytes)) = some (some e41.zero, e41.size, e41.bytes) := by kernel_rfl
abbrev e42 : TE := ⟨.slice 45, 1, 24, .slice none 0 0⟩
theorem u42 : (Try.prog.underlying 42).map tdOf = some e42.td := by kernel_rfl
theorem i42 : (Try.prog.info? 42).map (fun i => (i.zero, i.size, i.bytes)) = some (some e42.zero, e42.size, e42.bytes) := by kernel_rfl
abbrev e43 : TE := ⟨.slice 3, 1, 24, .slice none 0 0⟩
theorem u43 : (Try.prog.underlying 43).map tdOf = some e43.td := by kernel_rfl
theorem i43 : (Try.prog.info? 43).map (fun i => (i.zero, i.size, i.bytes)) = some (some e43.zero, e43.size, e43.bytes) := by kernel_rfl
abbrev e44 : TE := ⟨.struct [(3, 0), (3, 1), (22, 2), (24, 3), (9, 5), (3, 6), (43, 7)], 8, 112, .agg #[.int .i64 0, .int .i64 0, .slice none 0 0, .int .i64 0, .string ⟨#[]⟩, .string ⟨#[]⟩, .int .i64 0, .slice none 0 0]⟩
theorem u44 : (Try.prog.underlying 44).map tdOf = some e44.td := by kernel_rfl
theorem i44 : (Try.prog.info? 44).map (fun i => (i.zero, i.size, i.bytes)) = some (some e44.zero, e44.size, e44.bytes) := by kernel_rfl
abbrev e45 : TE := ⟨.struct [(3, 0), (3, 1), (22, 2), (24, 3), (9, 5), (3, 6), (43, 7)], 8, 112, .agg #[.int .i64 0, .int .i64 0, .slice none 0 0, .int .i64 0, .string ⟨#[]⟩, .string ⟨#[]⟩, .int .i64 0, .slice none 0 0]⟩
theorem u45 : (Try.prog.underlying 45).map tdOf = some e45.td := by kernel_rfl
theorem i45 : (Try.prog.info? 45).map (fun i => (i.zero, i.size, i.bytes)) = some (some e45.zero, e45.size, e45.bytes) := by kernel_rfl
abbrev e46 : TE := ⟨.ptr 83, 1, 8, .pointer none⟩
theorem u46 : (Try.prog.underlying 46).map tdOf = some e46.td := by kernel_rfl
theorem i46 : (Try.prog.info? 46).map (fun i => (i.zero, i.size, i.bytes)) = some (some e46.zero, e46.size, e46.bytes) := by kernel_rfl
abbrev e48 : TE := ⟨.func, 1, 8, .nilFunc⟩
theorem u48 : (Try.prog.underlying 48).map tdOf = some e48.td := by kernel_rfl
theorem i48 : (Try.prog.info? 48).map (fun i => (i.zero, i.size, i.bytes)) = some (some e48.zero, e48.size, e48.bytes) := by kernel_rfl
abbrev e49 : TE := ⟨.ptr 92, 1, 8, .pointer none⟩
theorem u49 : (Try.prog.underlying 49).map tdOf = some e49.td := by kernel_rfl
theorem i49 : (Try.prog.info? 49).map (fun i => (i.zero, i.size, i.bytes)) = some (some e49.zero, e49.size, e49.bytes) := by kernel_rfl
abbrev e50 : TE := ⟨.func, 1, 8, .nilFunc⟩
theorem u50 : (Try.prog.underlying 50).map tdOf = some e50.td := by kernel_rfl
theorem i50 : (Try.prog.info? 50).map (fun i => (i.zero, i.size, i.bytes)) = some (some e50.zero, e50.size, e50.bytes) := by kernel_rfl
abbrev e51 : TE := ⟨.func, 1, 8, .nilFunc⟩
theorem u51 : (Try.prog.underlying 51).map tdOf = some e51.td := by kernel_rfl
theorem i51 : (Try.prog.info? 51).map (fun i => (i.zero, i.size, i.bytes)) = some (some e51.zero, e51.size, e51.bytes) := by kernel_rfl
abbrev e52 : TE := ⟨.func, 1, 8, .nilFunc⟩
theorem u52 : (Try.prog.underlying 52).map tdOf = some e52.td := by kernel_rfl
theorem i52 : (Try.prog.info? 52).map (fun i => (i.zero, i.size, i.bytes)) = some (some e52.zero, e52.size, e52.bytes) := by kernel_rfl
abbrev e53 : TE := ⟨.func, 1, 8, .nilFunc⟩
theorem u53 : (Try.prog.underlying 53).map tdOf = some e53.td := by kernel_rfl
theorem i53 : (Try.prog.info? 53).map (fun i => (i.zero, i.size, i.bytes)) = some (some e53.zero, e53.size, e53.bytes) := by kernel_rfl
abbrev e54 : TE := ⟨.func, 1, 8, .nilFunc⟩
theorem u54 : (Try.prog.underlying 54).map tdOf = some e54.td := by kernel_rfl
theorem i54 : (Try.prog.info? 54).map (fun i => (i.zero, i.size, i.bytes)) = some (some e54.zero, e54.size, e54.bytes) := by kernel_rfl
abbrev e55 : TE := ⟨.func, 1, 8, .nilFunc⟩
theorem u55 : (Try.prog.underlying 55).map tdOf = some e55.td := by kernel_rfl
theorem i55 : (Try.prog.info? 55).map (fun i => (i.zero, i.size, i.bytes)) = some (some e55.zero, e55.size, e55.bytes) := by kernel_rfl
abbrev e56 : TE := ⟨.func, 1, 8, .nilFunc⟩
theorem u56 : (Try.prog.underlying 56).map tdOf = some e56.td := by kernel_rfl
theorem i56 : (Try.prog.info? 56).map (fun i => (i.zero, i.size, i.bytes)) = some (some e56.zero, e56.size, e56.bytes) := by kernel_rfl
abbrev e57 : TE := ⟨.func, 1, 8, .nilFunc⟩
theorem u57 : (Try.prog.underlying 57).map tdOf = some e57.td := by kernel_rfl
theorem i57 : (Try.prog.info? 57).map (fun i => (i.zero, i.size, i.bytes)) = some (some e57.zero, e57.size, e57.bytes) := by kernel_rfl
abbrev e58 : TE := ⟨.func, 1, 8, .nilFunc⟩
theorem u58 : (Try.prog.underlying 58).map tdOf = some e58.td := by kernel_rfl
theorem i58 : (Try.prog.info? 58).map (fun i => (i.zero, i.size, i.bytes)) = some (some e58.zero, e58.size, e58.bytes) := by kernel_rfl
abbrev e59 : TE := ⟨.func, 1, 8, .nilFunc⟩
theorem u59 : (Try.prog.underlying 59).map tdOf = some e59.td := by kernel_rfl
theorem i59 : (Try.prog.info? 59).map (fun i => (i.zero, i.size, i.bytes)) = some (some e59.zero, e59.size, e59.bytes) := by kernel_rfl
abbrev e60 : TE := ⟨.func, 1, 8, .nilFunc⟩
theorem u60 : (Try.prog.underlying 60).map tdOf = some e60.td := by kernel_rfl
theorem i60 : (Try.prog.info? 60).map (fun i => (i.zero, i.size, i.bytes)) = some (some e60.zero, e60.size, e60.bytes) := by kernel_rfl
abbrev e61 : TE := ⟨.func, 1, 8, .nilFunc⟩
theorem u61 : (Try.prog.underlying 61).map tdOf = some e61.td := by kernel_rfl
theorem i61 : (Try.prog.info? 61).map (fun i => (i.zero, i.size, i.bytes)) = some (some e61.zero, e61.size, e61.bytes) := by kernel_rfl
abbrev e62 : TE := ⟨.func, 1, 8, .nilFunc⟩
theorem u62 : (Try.prog.underlying 62).map tdOf = some e62.td := by kernel_rfl
theorem i62 : (Try.prog.info? 62).map (fun i => (i.zero, i.size, i.bytes)) = some (some e62.zero, e62.size, e62.bytes) := by kernel_rfl
abbrev e63 : TE := ⟨.slice 9, 1, 24, .slice none 0 0⟩
theorem u63 : (Try.prog.underlying 63).map tdOf = some e63.td := by kernel_rfl
theorem i63 : (Try.prog.info? 63).map (fun i => (i.zero, i.size, i.bytes)) = some (some e63.zero, e63.size, e63.bytes) := by kernel_rfl
abbrev e64 : TE := ⟨.func, 1, 8, .nilFunc⟩
theorem u64 : (Try.prog.underlying 64).map tdOf = some e64.td := by kernel_rfl
theorem i64 : (Try.prog.info? 64).map (fun i => (i.zero, i.size, i.bytes)) = some (some e64.zero, e64.size, e64.bytes) := by kernel_rfl
abbrev e65 : TE := ⟨.func, 1, 8, .nilFunc⟩
theorem u65 : (Try.prog.underlying 65).map tdOf = some e65.td := by kernel_rfl
theorem i65 : (Try.prog.info? 65).map (fun i => (i.zero, i.size, i.bytes)) = some (some e65.zero, e65.size, e65.bytes) := by kernel_rfl
abbrev e66 : TE := ⟨.func, 1, 8, .nilFunc⟩
theorem u66 : (Try.prog.underlying 66).map tdOf = some e66.td := by kernel_rfl
theorem i66 : (Try.prog.info? 66).map (fun i => (i.zero, i.size, i.bytes)) = some (some e66.zero, e66.size, e66.bytes) := by kernel_rfl
abbrev e67 : TE := ⟨.func, 1, 8, .nilFunc⟩
theorem u67 : (Try.prog.underlying 67).map tdOf = some e67.td := by kernel_rfl
theorem i67 : (Try.prog.info? 67).map (fun i => (i.zero, i.size, i.bytes)) = some (some e67.zero, e67.size, e67.bytes) := by kernel_rfl
abbrev e68 : TE := ⟨.func, 1, 8, .nilFunc⟩
theorem u68 : (Try.prog.underlying 68).map tdOf = some e68.td := by kernel_rfl
theorem i68 : (Try.prog.info? 68).map (fun i => (i.zero, i.size, i.bytes)) = some (some e68.zero, e68.size, e68.bytes) := by kernel_rfl
abbrev e69 : TE := ⟨.func, 1, 8, .nilFunc⟩
theorem u69 : (Try.prog.underlying 69).map tdOf = some e69.td := by kernel_rfl
theorem i69 : (Try.prog.info? 69).map (fun i => (i.zero, i.size, i.bytes)) = some (some e69.zero, e69.size, e69.bytes) := by kernel_rfl
abbrev e70 : TE := ⟨.func, 1, 8, .nilFunc⟩
theorem u70 : (Try.prog.underlying 70).map tdOf = some e70.td := by kernel_rfl
theorem i70 : (Try.prog.info? 70).map (fun i => (i.zero, i.size, i.bytes)) = some (some e70.zero, e70.size, e70.bytes) := by kernel_rfl
abbrev e71 : TE := ⟨.func, 1, 8, .nilFunc⟩
theorem u71 : (Try.prog.underlying 71).map tdOf = some e71.td := by kernel_rfl
theorem i71 : (Try.prog.info? 71).map (fun i => (i.zero, i.size, i.bytes)) = some (some e71.zero, e71.size, e71.bytes) := by kernel_rfl
abbrev e73 : TE := ⟨.func, 1, 8, .nilFunc⟩
theorem u73 : (Try.prog.underlying 73).map tdOf = some e73.td := by kernel_rfl
theorem i73 : (Try.prog.info? 73).map (fun i => (i.zero, i.size, i.bytes)) = some (some e73.zero, e73.size, e73.bytes) := by kernel_rfl
abbrev e74 : TE := ⟨.func, 1, 8, .nilFunc⟩
theorem u74 : (Try.prog.underlying 74).map tdOf = some e74.td := by kernel_rfl
theorem i74 : (Try.prog.info? 74).map (fun i => (i.zero, i.size, i.bytes)) = some (some e74.zero, e74.size, e74.bytes) := by kernel_rfl
abbrev e75 : TE := ⟨.func, 1, 8, .nilFunc⟩
theorem u75 : (Try.prog.underlying 75).map tdOf = some e75.td := by kernel_rfl
theorem i75 : (Try.prog.info? 75).map (fun i => (i.zero, i.size, i.bytes)) = some (some e75.zero, e75.size, e75.bytes) := by kernel_rfl
abbrev e77 : TE := ⟨.func, 1, 8, .nilFunc⟩
theorem u77 : (Try.prog.underlying 77).map tdOf = some e77.td := by kernel_rfl
theorem i77 : (Try.prog.info? 77).map (fun i => (i.zero, i.size, i.bytes)) = some (some e77.zero, e77.size, e77.bytes) := by kernel_rfl
abbrev e79 : TE := ⟨.func, 1, 8, .nilFunc⟩
theorem u79 : (Try.prog.underlying 79).map tdOf = some e79.td := by kernel_rfl
theorem i79 : (Try.prog.info? 79).map (fun i => (i.zero, i.size, i.bytes)) = some (some e79.zero, e79.size, e79.bytes) := by kernel_rfl
abbrev e81 : TE := ⟨.func, 1, 8, .nilFunc⟩
theorem u81 : (Try.prog.underlying 81).map tdOf = some e81.td := by kernel_rfl
theorem i81 : (Try.prog.info? 81).map (fun i => (i.zero, i.size, i.bytes)) = some (some e81.zero, e81.size, e81.bytes) := by kernel_rfl
abbrev e82 : TE := ⟨.struct [(49, 0), (3, 1), (34, 2), (4, 4)], 5, 56, .agg #[.pointer none, .int .i64 0, .int .i64 0, .slice none 0 0, .bool false]⟩
theorem u82 : (Try.prog.underlying 82).map tdOf = some e82.td := by kernel_rfl
theorem i82 : (Try.prog.info? 82).map (fun i => (i.zero, i.size, i.bytes)) = some (some e82.zero, e82.size, e82.bytes) := by kernel_rfl
abbrev e83 : TE := ⟨.struct [(49, 0), (3, 1), (34, 2), (4, 4)], 5, 56, .agg #[.pointer none, .int .i64 0, .int .i64 0, .slice none 0 0, .bool false]⟩
theorem u83 : (Try.prog.underlying 83).map tdOf = some e83.td := by kernel_rfl
theorem i83 : (Try.prog.info? 83).map (fun i => (i.zero, i.size, i.bytes)) = some (some e83.zero, e83.size, e83.bytes) := by kernel_rfl
abbrev e84 : TE := ⟨.func, 1, 8, .nilFunc⟩
theorem u84 : (Try.prog.underlying 84).map tdOf = some e84.td := by kernel_rfl
theorem i84 : (Try.prog.info? 84).map (fun i => (i.zero, i.size, i.bytes)) = some (some e84.zero, e84.size, e84.bytes) := by kernel_rfl
abbrev e86 : TE := ⟨.func, 1, 8, .nilFunc⟩
theorem u86 : (Try.prog.underlying 86).map tdOf = some e86.td := by kernel_rfl
theorem i86 : (Try.prog.info? 86).map (fun i => (i.zero, i.size, i.bytes)) = some (some e86.zero, e86.size, e86.bytes) := by kernel_rfl
abbrev e88 : TE := ⟨.func, 1, 8, .nilFunc⟩
theorem u88 : (Try.prog.underlying 88).map tdOf = some e88.td := by kernel_rfl
theorem i88 : (Try.prog.info? 88).map (fun i => (i.zero, i.size, i.bytes)) = some (some e88.zero, e88.size, e88.bytes) := by kernel_rfl
abbrev e89 : TE := ⟨.func, 1, 8, .nilFunc⟩
theorem u89 : (Try.prog.underlying 89).map tdOf = some e89.td := by kernel_rfl
theorem i89 : (Try.prog.info? 89).map (fun i => (i.zero, i.size, i.bytes)) = some (some e89.zero, e89.size, e89.bytes) := by kernel_rfl
abbrev e90 : TE := ⟨.map 9 118, 1, 8, .map none⟩
theorem u90 : (Try.prog.underlying 90).map tdOf = some e90.td := by kernel_rfl
theorem i90 : (Try.prog.info? 90).map (fun i => (i.zero, i.size, i.bytes)) = some (some e90.zero, e90.size, e90.bytes) := by kernel_rfl
abbrev e91 : TE := ⟨.struct [(90, 0), (3, 1), (3, 2), (3, 3), (4, 4)], 5, 40, .agg #[.map none, .int .i64 0, .int .i64 0, .int .i64 0, .bool false]⟩
theorem u91 : (Try.prog.underlying 91).map tdOf = some e91.td := by kernel_rfl
theorem i91 : (Try.prog.info? 91).map (fun i => (i.zero, i.size, i.bytes)) = some (some e91.zero, e91.size, e91.bytes) := by kernel_rfl
abbrev e92 : TE := ⟨.struct [(90, 0), (3, 1), (3, 2), (3, 3), (4, 4)], 5, 40, .agg #[.map none, .int .i64 0, .int .i64 0, .int .i64 0, .bool false]⟩
theorem u92 : (Try.prog.underlying 92).map tdOf = some e92.td := by kernel_rfl
theorem i92 : (Try.prog.info? 92).map (fun i => (i.zero, i.size, i.bytes)) = some (some e92.zero, e92.size, e92.bytes) := by kernel_rfl
abbrev e93 : TE := ⟨.func, 1, 8, .nilFunc⟩
theorem u93 : (Try.prog.underlying 93).map tdOf = some e93.td := by kernel_rfl
theorem i93 : (Try.prog.info? 93).map (fun i => (i.zero, i.size, i.bytes)) = some (some e93.zero, e93.size, e93.bytes) := by kernel_rfl
abbrev e94 : TE := ⟨.struct [(9, 0), (3, 1), (22, 2)], 3, 48, .agg #[.string ⟨#[]⟩, .int .i64 0, .slice none 0 0]⟩
theorem u94 : (Try.prog.underlying 94).map tdOf = some e94.td := by kernel_rfl
theorem i94 : (Try.prog.info? 94).map (fun i => (i.zero, i.size, i.bytes)) = some (some e94.zero, e94.size, e94.bytes) := by kernel_rfl
abbrev e95 : TE := ⟨.struct [(9, 0), (3, 1), (22, 2)], 3, 48, .agg #[.string ⟨#[]⟩, .int .i64 0, .slice none 0 0]⟩
theorem u95 : (Try.prog.underlying 95).map tdOf = some e95.td := by kernel_rfl
theorem i95 : (Try.prog.info? 95).map (fun i => (i.zero, i.size, i.bytes)) = some (some e95.zero, e95.size, e95.bytes) := by kernel_rfl
abbrev e96 : TE := ⟨.struct [], 0, 0, .agg #[]⟩
theorem u96 : (Try.prog.underlying 96).map tdOf = some e96.td := by kernel_rfl
theorem i96 : (Try.prog.info? 96).map (fun i => (i.zero, i.size, i.bytes)) = some (some e96.zero, e96.size, e96.bytes) := by kernel_rfl
abbrev e97 : TE := ⟨.struct [], 0, 0, .agg #[]⟩
theorem u97 : (Try.prog.underlying 97).map tdOf = some e97.td := by kernel_rfl
theorem i97 : (Try.prog.info? 97).map (fun i => (i.zero, i.size, i.bytes)) = some (some e97.zero, e97.size, e97.bytes) := by kernel_rfl
abbrev e98 : TE := ⟨.func, 1, 8, .nilFunc⟩
theorem u98 : (Try.prog.underlying 98).map tdOf = some e98.td := by kernel_rfl
theorem i98 : (Try.prog.info? 98).map (fun i => (i.zero, i.size, i.bytes)) = some (some e98.zero, e98.size, e98.bytes) := by kernel_rfl
abbrev e99 : TE := ⟨.func, 1, 8, .nilFunc⟩
theorem u99 : (Try.prog.underlying 99).map tdOf = some e99.td := by kernel_rfl
theorem i99 : (Try.prog.info? 99).map (fun i => (i.zero, i.size, i.bytes)) = some (some e99.zero, e99.size, e99.bytes) := by kernel_rfl
abbrev e100 : TE := ⟨.slice 5, 1, 24, .slice none 0 0⟩
theorem u100 : (Try.prog.underlying 100).map tdOf = some e100.td := by kernel_rfl
theorem i100 : (Try.prog.info? 100).map (fun i => (i.zero, i.size, i.bytes)) = some (some e100.zero, e100.size, e100.bytes) := by kernel_rfl
abbrev e101 : TE := ⟨.int .u64, 1, 8, .int .u64 0⟩
theorem u101 : (Try.prog.underlying 101).map tdOf = some e101.td := by kernel_rfl
theorem i101 : (Try.prog.info? 101).map (fun i => (i.zero, i.size, i.bytes)) = some (some e101.zero, e101.size, e101.bytes) := by kernel_rfl
abbrev e102 : TE := ⟨.int .u64, 1, 8, .int .u64 0⟩
theorem u102 : (Try.prog.underlying 102).map tdOf = some e102.td := by kernel_rfl
theorem i102 : (Try.prog.info? 102).map (fun i => (i.zero, i.size, i.bytes)) = some (some e102.zero, e102.size, e102.bytes) := by kernel_rfl
abbrev e103 : TE := ⟨.func, 1, 8, .nilFunc⟩
theorem u103 : (Try.prog.underlying 103).map tdOf = some e103.td := by kernel_rfl
theorem i103 : (Try.prog.info? 103).map (fun i => (i.zero, i.size, i.bytes)) = some (some e103.zero, e103.size, e103.bytes) := by kernel_rfl
abbrev e104 : TE := ⟨.func, 1, 8, .nilFunc⟩
theorem u104 : (Try.prog.underlying 104).map tdOf = some e104.td := by kernel_rfl
theorem i104 : (Try.prog.info? 104).map (fun i => (i.zero, i.size, i.bytes)) = some (some e104.zero, e104.size, e104.bytes) := by kernel_rfl
abbrev e107 : TE := ⟨.func, 1, 8, .nilFunc⟩
theorem u107 : (Try.prog.underlying 107).map tdOf = some e107.td := by kernel_rfl
theorem i107 : (Try.prog.info? 107).map (fun i => (i.zero, i.size, i.bytes)) = some (some e107.zero, e107.size, e107.bytes) := by kernel_rfl
abbrev e108 : TE := ⟨.ptr 110, 1, 8, .pointer none⟩
theorem u108 : (Try.prog.underlying 108).map tdOf = some e108.td := by kernel_rfl
theorem i108 : (Try.prog.info? 108).map (fun i => (i.zero, i.size, i.bytes)) = some (some e108.zero, e108.size, e108.bytes) := by kernel_rfl
abbrev e109 : TE := ⟨.struct [(108, 0), (100, 1)], 2, 32, .agg #[.pointer none, .slice none 0 0]⟩
theorem u109 : (Try.prog.underlying 109).map tdOf = some e109.td := by kernel_rfl
theorem i109 : (Try.prog.info? 109).map (fun i => (i.zero, i.size, i.bytes)) = some (some e109.zero, e109.size, e109.bytes) := by kernel_rfl
abbrev e110 : TE := ⟨.struct [(108, 0), (100, 1)], 2, 32, .agg #[.pointer none, .slice none 0 0]⟩
theorem u110 : (Try.prog.underlying 110).map tdOf = some e110.td := by kernel_rfl
theorem i110 : (Try.prog.info? 110).map (fun i => (i.zero, i.size, i.bytes)) = some (some e110.zero, e110.size, e110.bytes) := by kernel_rfl
abbrev e111 : TE := ⟨.func, 1, 8, .nilFunc⟩
theorem u111 : (Try.prog.underlying 111).map tdOf = some e111.td := by kernel_rfl
theorem i111 : (Try.prog.info? 111).map (fun i => (i.zero, i.size, i.bytes)) = some (some e111.zero, e111.size, e111.bytes) := by kernel_rfl
abbrev e112 : TE := ⟨.iface, 1, 16, .nilIface⟩
theorem u112 : (Try.prog.underlying 112).map tdOf = some e112.td := by kernel_rfl
theorem i112 : (Try.prog.info? 112).map (fun i => (i.zero, i.size, i.bytes)) = some (some e112.zero, e112.size, e112.bytes) := by kernel_rfl
abbrev e113 : TE := ⟨.iface, 1, 16, .nilIface⟩
theorem u113 : (Try.prog.underlying 113).map tdOf = some e113.td := by kernel_rfl
theorem i113 : (Try.prog.info? 113).map (fun i => (i.zero, i.size, i.bytes)) = some (some e113.zero, e113.size, e113.bytes) := by kernel_rfl
abbrev e115 : TE := ⟨.func, 1, 8, .nilFunc⟩
theorem u115 : (Try.prog.underlying 115).map tdOf = some e115.td := by kernel_rfl
theorem i115 : (Try.prog.info? 115).map (fun i => (i.zero, i.size, i.bytes)) = some (some e115.zero, e115.size, e115.bytes) := by kernel_rfl
abbrev e116 : TE := ⟨.func, 1, 8, .nilFunc⟩
theorem u116 : (Try.prog.underlying 116).map tdOf = some e116.td := by kernel_rfl
theorem i116 : (Try.prog.info? 116).map (fun i => (i.zero, i.size, i.bytes)) = some (some e116.zero, e116.size, e116.bytes) := by kernel_rfl
abbrev e117 : TE := ⟨.struct [(9, 0), (3, 1)], 2, 24, .agg #[.string ⟨#[]⟩, .int .i64 0]⟩
theorem u117 : (Try.prog.underlying 117).map tdOf = some e117.td := by kernel_rfl
theorem i117 : (Try.prog.info? 117).map (fun i => (i.zero, i.size, i.bytes)) = some (some e117.zero, e117.size, e117.bytes) := by kernel_rfl
abbrev e118 : TE := ⟨.struct [(9, 0), (3, 1)], 2, 24, .agg #[.string ⟨#[]⟩, .int .i64 0]⟩
theorem u118 : (Try.prog.underlying 118).map tdOf = some e118.td := by kernel_rfl
theorem i118 : (Try.prog.info? 118).map (fun i => (i.zero, i.size, i.bytes)) = some (some e118.zero, e118.size, e118.bytes) := by kernel_rfl
abbrev e120 : TE := ⟨.func, 1, 8, .nilFunc⟩
theorem u120 : (Try.prog.underlying 120).map tdOf = some e120.td := by kernel_rfl
theorem i120 : (Try.prog.info? 120).map (fun i => (i.zero, i.size, i.bytes)) = some (some e120.zero, e120.size, e120.bytes) := by kernel_rfl
abbrev e122 : TE := ⟨.func, 1, 8, .nilFunc⟩
theorem u122 : (Try.prog.underlying 122).map tdOf = some e122.td := by kernel_rfl
theorem i122 : (Try.prog.info? 122).map (fun i => (i.zero, i.size, i.bytes)) = some (some e122.zero, e122.size, e122.bytes) := by kernel_rfl
abbrev e123 : TE := ⟨.struct [], 0, 0, .agg #[]⟩
theorem u123 : (Try.prog.underlying 123).map tdOf = some e123.td := by kernel_rfl
theorem i123 : (Try.prog.info? 123).map (fun i => (i.zero, i.size, i.bytes)) = some (some e123.zero, e123.size, e123.bytes) := by kernel_rfl
abbrev e124 : TE := ⟨.func, 1, 8, .nilFunc⟩
theorem u124 : (Try.prog.underlying 124).map tdOf = some e124.td := by kernel_rfl
theorem i124 : (Try.prog.info? 124).map (fun i => (i.zero, i.size, i.bytes)) = some (some e124.zero, e124.size, e124.bytes) := by kernel_rfl
abbrev e126 : TE := ⟨.func, 1, 8, .nilFunc⟩
theorem u126 : (Try.prog.underlying 126).map tdOf = some e126.td := by kernel_rfl
theorem i126 : (Try.prog.info? 126).map (fun i => (i.zero, i.size, i.bytes)) = some (some e126.zero, e126.size, e126.bytes) := by kernel_rfl
abbrev e128 : TE := ⟨.func, 1, 8, .nilFunc⟩
theorem u128 : (Try.prog.underlying 128).map tdOf = some e128.td := by kernel_rfl
theorem i128 : (Try.prog.info? 128).map (fun i => (i.zero, i.size, i.bytes)) = some (some e128.zero, e128.size, e128.bytes) := by kernel_rfl
abbrev e130 : TE := ⟨.func, 1, 8, .nilFunc⟩
theorem u130 : (Try.prog.underlying 130).map tdOf = some e130.td := by kernel_rfl
theorem i130 : (Try.prog.info? 130).map (fun i => (i.zero, i.size, i.bytes)) = some (some e130.zero, e130.size, e130.bytes) := by kernel_rfl
abbrev e131 : TE := ⟨.func, 1, 8, .nilFunc⟩
theorem u131 : (Try.prog.underlying 131).map tdOf = some e131.td := by kernel_rfl
theorem i131 : (Try.prog.info? 131).map (fun i => (i.zero, i.size, i.bytes)) = some (some e131.zero, e131.size, e131.bytes) := by kernel_rfl
abbrev e132 : TE := ⟨.func, 1, 8, .nilFunc⟩
theorem u132 : (Try.prog.underlying 132).map tdOf = some e132.td := by kernel_rfl
theorem i132 : (Try.prog.info? 132).map (fun i => (i.zero, i.size, i.bytes)) = some (some e132.zero, e132.size, e132.bytes) := by kernel_rfl
abbrev e133 : TE := ⟨.int .u32, 1, 4, .int .u32 0⟩
theorem u133 : (Try.prog.underlying 133).map tdOf = some e133.td := by kernel_rfl
theorem i133 : (Try.prog.info? 133).map (fun i => (i.zero, i.size, i.bytes)) = some (some e133.zero, e133.size, e133.bytes) := by kernel_rfl
abbrev e134 : TE := ⟨.func, 1, 8, .nilFunc⟩
theorem u134 : (Try.prog.underlying 134).map tdOf = some e134.td := by kernel_rfl
theorem i134 : (Try.prog.info? 134).map (fun i => (i.zero, i.size, i.bytes)) = some (some e134.zero, e134.size, e134.bytes) := by kernel_rfl
abbrev e135 : TE := ⟨.func, 1, 8, .nilFunc⟩
theorem u135 : (Try.prog.underlying 135).map tdOf = some e135.td := by kernel_rfl
theorem i135 : (Try.prog.info? 135).map (fun i => (i.zero, i.size, i.bytes)) = some (some e135.zero, e135.size, e135.bytes) := by kernel_rfl
abbrev e136 : TE := ⟨.func, 1, 8, .nilFunc⟩
theorem u136 : (Try.prog.underlying 136).map tdOf = some e136.td := by kernel_rfl
theorem i136 : (Try.prog.info? 136).map (fun i => (i.zero, i.size, i.bytes)) = some (some e136.zero, e136.size, e136.bytes) := by kernel_rfl
abbrev e137 : TE := ⟨.func, 1, 8, .nilFunc⟩
theorem u137 : (Try.prog.underlying 137).map tdOf = some e137.td := by kernel_rfl
theorem i137 : (Try.prog.info? 137).map (fun i => (i.zero, i.size, i.bytes)) = some (some e137.zero, e137.size, e137.bytes) := by kernel_rfl
abbrev e138 : TE := ⟨.func, 1, 8, .nilFunc⟩
theorem u138 : (Try.prog.underlying 138).map tdOf = some e138.td := by kernel_rfl
theorem i138 : (Try.prog.info? 138).map (fun i => (i.zero, i.size, i.bytes)) = some (some e138.zero, e138.size, e138.bytes) := by kernel_rfl
abbrev e139 : TE := ⟨.func, 1, 8, .nilFunc⟩
theorem u139 : (Try.prog.underlying 139).map tdOf = some e139.td := by kernel_rfl
theorem i139 : (Try.prog.info? 139).map (fun i => (i.zero, i.size, i.bytes)) = some (some e139.zero, e139.size, e139.bytes) := by kernel_rfl
abbrev e140 : TE := ⟨.ptr 5, 1, 8, .pointer none⟩
theorem u140 : (Try.prog.underlying 140).map tdOf = some e140.td := by kernel_rfl
theorem i140 : (Try.prog.info? 140).map (fun i => (i.zero, i.size, i.bytes)) = some (some e140.zero, e140.size, e140.bytes) := by kernel_rfl
abbrev e142 : TE := ⟨.func, 1, 8, .nilFunc⟩
theorem u142 : (Try.prog.underlying 142).map tdOf = some e142.td := by kernel_rfl
theorem i142 : (Try.prog.info? 142).map (fun i => (i.zero, i.size, i.bytes)) = some (some e142.zero, e142.size, e142.bytes) := by kernel_rfl
abbrev e143 : TE := ⟨.func, 1, 8, .nilFunc⟩
theorem u143 : (Try.prog.underlying 143).map tdOf = some e143.td := by kernel_rfl
theorem i143 : (Try.prog.info? 143).map (fun i => (i.zero, i.size, i.bytes)) = some (some e143.zero, e143.size, e143.bytes) := by kernel_rfl
abbrev e144 : TE := ⟨.arr 4 5, 4, 4, .agg #[.int .u8 0, .int .u8 0, .int .u8 0, .int .u8 0]⟩
theorem u144 : (Try.prog.underlying 144).map tdOf = some e144.td := by kernel_rfl
theorem i144 : (Try.prog.info? 144).map (fun i => (i.zero, i.size, i.bytes)) = some (some e144.zero, e144.size, e144.bytes) := by kernel_rfl
abbrev e145 : TE := ⟨.func, 1, 8, .nilFunc⟩
theorem u145 : (Try.prog.underlying 145).map tdOf = some e145.td := by kernel_rfl
theorem i145 : (Try.prog.info? 145).map (fun i => (i.zero, i.size, i.bytes)) = some (some e145.zero, e145.size, e145.bytes) := by kernel_rfl
abbrev e146 : TE := ⟨.slice 145, 1, 24, .slice none 0 0⟩
theorem u146 : (Try.prog.underlying 146).map tdOf = some e146.td := by kernel_rfl
theorem i146 : (Try.prog.info? 146).map (fun i => (i.zero, i.size, i.bytes)) = some (some e146.zero, e146.size, e146.bytes) := by kernel_rfl
abbrev e147 : TE := ⟨.func, 1, 8, .nilFunc⟩
theorem u147 : (Try.prog.underlying 147).map tdOf = some e147.td := by kernel_rfl
theorem i147 : (Try.prog.info? 147).map (fun i => (i.zero, i.size, i.bytes)) = some (some e147.zero, e147.size, e147.bytes) := by kernel_rfl
abbrev e148 : TE := ⟨.other, 1, 8, .pointer none⟩
theorem u148 : (Try.prog.underlying 148).map tdOf = some e148.td := by kernel_rfl
theorem i148 : (Try.prog.info? 148).map (fun i => (i.zero, i.size, i.bytes)) = some (some e148.zero, e148.size, e148.bytes) := by kernel_rfl
abbrev e149 : TE := ⟨.func, 1, 8, .nilFunc⟩
theorem u149 : (Try.prog.underlying 149).map tdOf = some e149.td := by kernel_rfl
theorem i149 : (Try.prog.info? 149).map (fun i => (i.zero, i.size, i.bytes)) = some (some e149.zero, e149.size, e149.bytes) := by kernel_rfl
abbrev e150 : TE := ⟨.func, 1, 8, .nilFunc⟩
theorem u150 : (Try.prog.underlying 150).map tdOf = some e150.td := by kernel_rfl
theorem i150 : (Try.prog.info? 150).map (fun i => (i.zero, i.size, i.bytes)) = some (some e150.zero, e150.size, e150.bytes) := by kernel_rfl
abbrev e158 : TE := ⟨.func, 1, 8, .nilFunc⟩
theorem u158 : (Try.prog.underlying 158).map tdOf = some e158.td := by kernel_rfl
theorem i158 : (Try.prog.info? 158).map (fun i => (i.zero, i.size, i.bytes)) = some (some e158.zero, e158.size, e158.bytes) := by kernel_rfl
abbrev tabL : List (Nat × TE) := [(1, ⟨.func, 1, 8, .nilFunc⟩), (2, ⟨.int .i64, 1, 8, .int .i64 0⟩), (3, ⟨.int .i64, 1, 8, .int .i64 0⟩), (4, ⟨.bool, 1, 1, .bool false⟩), (5, ⟨.int .u8, 1, 1, .int .u8 0⟩), (9, ⟨.string, 1, 16, .string ⟨#[]⟩⟩), (12, ⟨.int .u64, 1, 8, .int .u64 0⟩), (13, ⟨.struct [(9, 0), (12, 1)], 2, 24, .agg #[.string ⟨#[]⟩, .int .u64 0]⟩), (20, ⟨.iface, 1, 16, .nilIface⟩), (21, ⟨.int .i32, 1, 4, .int .i32 0⟩), (22, ⟨.slice 24, 1, 24, .slice none 0 0⟩), (23, ⟨.struct [(3, 0), (9, 1)], 2, 24, .agg #[.int .i64 0, .string ⟨#[]⟩]⟩), (24, ⟨.struct [(3, 0), (9, 1)], 2, 24, .agg #[.int .i64 0, .string ⟨#[]⟩]⟩), (25, ⟨.func, 1, 8, .nilFunc⟩), (26, ⟨.int .i64, 1, 8, .int .i64 0⟩), (28, ⟨.func, 1, 8, .nilFunc⟩), (30, ⟨.func, 1, 8, .nilFunc⟩), (31, ⟨.func, 1, 8, .nilFunc⟩), (32, ⟨.func, 1, 8, .nilFunc⟩), (33, ⟨.struct [(3, 0), (22, 1)], 2, 32, .agg #[.int .i64 0, .slice none 0 0]⟩), (34, ⟨.struct [(3, 0), (22, 1)], 2, 32, .agg #[.int .i64 0, .slice none 0 0]⟩), (36, ⟨.func, 1, 8, .nilFunc⟩), (38, ⟨.func, 1, 8, .nilFunc⟩), (39, ⟨.func, 1, 8, .nilFunc⟩), (40, ⟨.func, 1, 8, .nilFunc⟩), (41, ⟨.func, 1, 8, .nilFunc⟩), (42, ⟨.slice 45, 1, 24, .slice none 0 0⟩), (43, ⟨.slice 3, 1, 24, .slice none 0 0⟩), (44, ⟨.struct [(3, 0), (3, 1), (22, 2), (24, 3), (9, 5), (3, 6), (43, 7)], 8, 112, .agg #[.int .i64 0, .int .i64 0, .slice none 0 0, .int .i64 0, .string ⟨#[]⟩, .string ⟨#[]⟩, .int .i64 0, .slice none 0 0]⟩), (45, ⟨.struct [(3, 0), (3, 1), (22, 2), (24, 3), (9, 5), (3, 6), (43, 7)], 8, 112, .agg #[.int .i64 0, .int .i64 0, .slice none 0 0, .int .i64 0, .string ⟨#[]⟩, .string ⟨#[]⟩, .int .i64 0, .slice none 0 0]⟩), (46, ⟨.ptr 83, 1, 8, .pointer none⟩), (48, ⟨.func, 1, 8, .nilFunc⟩), (49, ⟨.ptr 92, 1, 8, .pointer none⟩), (50, ⟨.func, 1, 8, .nilFunc⟩), (51, ⟨.func, 1, 8, .nilFunc⟩), (52, ⟨.func, 1, 8, .nilFunc⟩), (53, ⟨.func, 1, 8, .nilFunc⟩), (54, ⟨.func, 1, 8, .nilFunc⟩), (55, ⟨.func, 1, 8, .nilFunc⟩), (56, ⟨.func, 1, 8, .nilFunc⟩), (57, ⟨.func, 1, 8, .nilFunc⟩), (58, ⟨.func, 1, 8, .nilFunc⟩), (59, ⟨.func, 1, 8, .nilFunc⟩), (60, ⟨.func, 1, 8, .nilFunc⟩), (61, ⟨.func, 1, 8, .nilFunc⟩), (62, ⟨.func, 1, 8, .nilFunc⟩), (63, ⟨.slice 9, 1, 24, .slice none 0 0⟩), (64, ⟨.func, 1, 8, .nilFunc⟩), (65, ⟨.func, 1, 8, .nilFunc⟩), (66, ⟨.func, 1, 8, .nilFunc⟩), (67, ⟨.func, 1, 8, .nilFunc⟩), (68, ⟨.func, 1, 8, .nilFunc⟩), (69, ⟨.func, 1, 8, .nilFunc⟩), (70, ⟨.func, 1, 8, .nilFunc⟩), (71, ⟨.func, 1, 8, .nilFunc⟩), (73, ⟨.func, 1, 8, .nilFunc⟩), (74, ⟨.func, 1, 8, .nilFunc⟩), (75, ⟨.func, 1, 8, .nilFunc⟩), (77, ⟨.func, 1, 8, .nilFunc⟩), (79, ⟨.func, 1, 8, .nilFunc⟩), (81, ⟨.func, 1, 8, .nilFunc⟩), (82, ⟨.struct [(49, 0), (3, 1), (34, 2), (4, 4)], 5, 56, .agg #[.pointer none, .int .i64 0, .int .i64 0, .slice none 0 0, .bool false]⟩), (83, ⟨.struct [(49, 0), (3, 1), (34, 2), (4, 4)], 5, 56, .agg #[.pointer none, .int .i64 0, .int .i64 0, .slice none 0 0, .bool false]⟩), (84, ⟨.func, 1, 8, .nilFunc⟩), (86, ⟨.func, 1, 8, .nilFunc⟩), (88, ⟨.func, 1, 8, .nilFunc⟩), (89, ⟨.func, 1, 8, .nilFunc⟩), (90, ⟨.map 9 118, 1, 8, .map none⟩), (91, ⟨.struct [(90, 0), (3, 1), (3, 2), (3, 3), (4, 4)], 5, 40, .agg #[.map none, .int .i64 0, .int .i64 0, .int .i64 0, .bool false]⟩), (92, ⟨.struct [(90, 0), (3, 1), (3, 2), (3, 3), (4, 4)], 5, 40, .agg #[.map none, .int .i64 0, .int .i64 0, .int .i64 0, .bool false]⟩), (93, ⟨.func, 1, 8, .nilFunc⟩), (94, ⟨.struct [(9, 0), (3, 1), (22, 2)], 3, 48, .agg #[.string ⟨#[]⟩, .int .i64 0, .slice none 0 0]⟩), (95, ⟨.struct [(9, 0), (3, 1), (22, 2)], 3, 48, .agg #[.string ⟨#[]⟩, .int .i64 0, .slice none 0 0]⟩), (96, ⟨.struct [], 0, 0, .agg #[]⟩), (97, ⟨.struct [], 0, 0, .agg #[]⟩), (98, ⟨.func, 1, 8, .nilFunc⟩), (99, ⟨.func, 1, 8, .nilFunc⟩), (100, ⟨.slice 5, 1, 24, .slice none 0 0⟩), (101, ⟨.int .u64, 1, 8, .int .u64 0⟩), (102, ⟨.int .u64, 1, 8, .int .u64 0⟩), (103, ⟨.func, 1, 8, .nilFunc⟩), (104, ⟨.func, 1, 8, .nilFunc⟩), (107, ⟨.func, 1, 8, .nilFunc⟩), (108, ⟨.ptr 110, 1, 8, .pointer none⟩), (109, ⟨.struct [(108, 0), (100, 1)], 2, 32, .agg #[.pointer none, .slice none 0 0]⟩), (110, ⟨.struct [(108, 0), (100, 1)], 2, 32, .agg #[.pointer none, .slice none 0 0]⟩), (111, ⟨.func, 1, 8, .nilFunc⟩), (112, ⟨.iface, 1, 16, .nilIface⟩), (113, ⟨.iface, 1, 16, .nilIface⟩), (115, ⟨.func, 1, 8, .nilFunc⟩), (116, ⟨.func, 1, 8, .nilFunc⟩), (117, ⟨.struct [(9, 0), (3, 1)], 2, 24, .agg #[.string ⟨#[]⟩, .int .i64 0]⟩), (118, ⟨.struct [(9, 0), (3, 1)], 2, 24, .agg #[.string ⟨#[]⟩, .int .i64 0]⟩), (120, ⟨.func, 1, 8, .nilFunc⟩), (122, ⟨.func, 1, 8, .nilFunc⟩), (123, ⟨.struct [], 0, 0, .agg #[]⟩), (124, ⟨.func, 1, 8, .nilFunc⟩), (126, ⟨.func, 1, 8, .nilFunc⟩), (128, ⟨.func, 1, 8, .nilFunc⟩), (130, ⟨.func, 1, 8, .nilFunc⟩), (131, ⟨.func, 1, 8, .nilFunc⟩), (132, ⟨.func, 1, 8, .nilFunc⟩), (133, ⟨.int .u32, 1, 4, .int .u32 0⟩), (134, ⟨.func, 1, 8, .nilFunc⟩), (135, ⟨.func, 1, 8, .nilFunc⟩), (136, ⟨.func, 1, 8, .nilFunc⟩), (137, ⟨.func, 1, 8, .nilFunc⟩), (138, ⟨.func, 1, 8, .nilFunc⟩), (139, ⟨.func, 1, 8, .nilFunc⟩), (140, ⟨.ptr 5, 1, 8, .pointer none⟩), (142, ⟨.func, 1, 8, .nilFunc⟩), (143, ⟨.func, 1, 8, .nilFunc⟩), (144, ⟨.arr 4 5, 4, 4, .agg #[.int .u8 0, .int .u8 0, .int .u8 0, .int .u8 0]⟩), (145, ⟨.func, 1, 8, .nilFunc⟩), (146, ⟨.slice 145, 1, 24, .slice none 0 0⟩), (147, ⟨.func, 1, 8, .nilFunc⟩), (148, ⟨.other, 1, 8, .pointer none⟩), (149, ⟨.func, 1, 8, .nilFunc⟩), (150, ⟨.func, 1, 8, .nilFunc⟩), (158, ⟨.func, 1, 8, .nilFunc⟩)]
theorem tabL_u : ∀ x ∈ tabL, (Try.prog.underlying x.1).map tdOf = some x.2.td := by
  intro x hx
  simp only [tabL, List.mem_cons, List.not_mem_nil, or_false] at hx
  rcases hx with rfl | rfl | rfl | rfl | rfl | rfl | rfl | rfl | rfl | rfl | rfl | rfl | rfl | rfl | rfl | rfl | rfl | rfl | rfl | rfl | rfl | rfl | rfl | rfl | rfl | rfl | rfl | rfl | rfl | rfl | rfl | rfl | rfl | rfl | rfl | rfl | rfl | rfl | rfl | rfl | rfl | rfl | rfl | rfl | rfl | rfl | rfl | rfl | rfl | rfl | rfl | rfl | rfl | rfl | rfl | rfl | rfl | rfl | rfl | rfl | rfl | rfl | rfl | rfl | rfl | rfl | rfl | rfl | rfl | rfl | rfl | rfl | rfl | rfl | rfl | rfl | rfl | rfl | rfl | rfl | rfl | rfl | rfl | rfl | rfl | rfl | rfl | rfl | rfl | rfl | rfl | rfl | rfl | rfl | rfl | rfl | rfl | rfl | rfl | rfl | rfl | rfl | rfl | rfl | rfl | rfl | rfl | rfl | rfl | rfl | rfl | rfl | rfl | rfl | rfl | rfl | rfl | rfl | rfl | rfl
  · exact u1
  · exact u2
  · exact u3
  · exact u4
  · exact u5
  · exact u9
  · exact u12
  · exact u13
  · exact u20
  · exact u21
  · exact u22
  · exact u23
  · exact u24
  · exact u25
  · exact u26
  · exact u28
  · exact u30
  · exact u31
  · exact u32
  · exact u33
  · exact u34
  · exact u36
  · exact u38
  · exact u39
  · exact u40
  · exact u41
  · exact u42
  · exact u43
  · exact u44
  · exact u45
  · exact u46
  · exact u48
  · exact u49
  · exact u50
  · exact u51
  · exact u52
  · exact u53
  · exact u54
  · exact u55
  · exact u56
  · exact u57
  · exact u58
  · exact u59
  · exact u60
  · exact u61
  · exact u62
  · exact u63
  · exact u64
  · exact u65
  · exact u66
  · exact u67
  · exact u68
  · exact u69
  · exact u70
  · exact u71
  · exact u73
  · exact u74
  · exact u75
  · exact u77
  · exact u79
  · exact u81
  · exact u82
  · exact u83
  · exact u84
  · exact u86
  · exact u88
  · exact u89
  · exact u90
  · exact u91
  · exact u92
  · exact u93
  · exact u94
  · exact u95
  · exact u96
  · exact u97
  · exact u98
  · exact u99
  · exact u100
  · exact u101
  · exact u102
  · exact u103
  · exact u104
  · exact u107
  · exact u108
  · exact u109
  · exact u110
  · exact u111
  · exact u112
  · exact u113
  · exact u115
  · exact u116
  · exact u117
  · exact u118
  · exact u120
  · exact u122
  · exact u123
  · exact u124
  · exact u126
  · exact u128
  · exact u130
  · exact u131
  · exact u132
  · exact u133
  · exact u134
  · exact u135
  · exact u136
  · exact u137
  · exact u138
  · exact u139
  · exact u140
  · exact u142
  · exact u143
  · exact u144
  · exact u145
  · exact u146
  · exact u147
  · exact u148
  · exact u149
  · exact u150
  · exact u158
theorem tabL_i : ∀ x ∈ tabL, (Try.prog.info? x.1).map (fun i => (i.zero, i.size, i.bytes)) = some (some x.2.zero, x.2.size, x.2.bytes) := by
  intro x hx
  simp only [tabL, List.mem_cons, List.not_mem_nil, or_false] at hx
  rcases hx with rfl | rfl | rfl | rfl | rfl | rfl | rfl | rfl | rfl | rfl | rfl | rfl | rfl | rfl | rfl | rfl | rfl | rfl | rfl | rfl | rfl | rfl | rfl | rfl | rfl | rfl | rfl | rfl | rfl | rfl | rfl | rfl | rfl | rfl | rfl | rfl | rfl | rfl | rfl | rfl | rfl | rfl | rfl | rfl | rfl | rfl | rfl | rfl | rfl | rfl | rfl | rfl | rfl | rfl | rfl | rfl | rfl | rfl | rfl | rfl | rfl | rfl | rfl | rfl | rfl | rfl | rfl | rfl | rfl | rfl | rfl | rfl | rfl | rfl | rfl | rfl | rfl | rfl | rfl | rfl | rfl | rfl | rfl | rfl | rfl | rfl | rfl | rfl | rfl | rfl | rfl | rfl | rfl | rfl | rfl | rfl | rfl | rfl | rfl | rfl | rfl | rfl | rfl | rfl | rfl | rfl | rfl | rfl | rfl | rfl | rfl | rfl | rfl | rfl | rfl | rfl | rfl | rfl | rfl | rfl
  · exact i1
  · exact i2
  · exact i3
  · exact i4
  · exact i5
  · exact i9
  · exact i12
  · exact i13
  · exact i20
  · exact i21
  · exact i22
  · exact i23
  · exact i24
  · exact i25
  · exact i26
  · exact i28
  · exact i30
  · exact i31
  · exact i32
  · exact i33
  · exact i34
  · exact i36
  · exact i38
  · exact i39
  · exact i40
  · exact i41
  · exact i42
  · exact i43
  · exact i44
  · exact i45
  · exact i46
  · exact i48
  · exact i49
  · exact i50
  · exact i51
  · exact i52
  · exact i53
  · exact i54
  · exact i55
  · exact i56
  · exact i57
  · exact i58
  · exact i59
  · exact i60
  · exact i61
  · exact i62
  · exact i63
  · exact i64
  · exact i65
  · exact i66
  · exact i67
  · exact i68
  · exact i69
  · exact i70
  · exact i71
  · exact i73
  · exact i74
  · exact i75
  · exact i77
  · exact i79
  · exact i81
  · exact i82
  · exact i83
  · exact i84
  · exact i86
  · exact i88
  · exact i89
  · exact i90
  · exact i91
  · exact i92
  · exact i93
  · exact i94
  · exact i95
  · exact i96
  · exact i97
  · exact i98
  · exact i99
  · exact i100
  · exact i101
  · exact i102
  · exact i103
  · exact i104
  · exact i107
  · exact i108
  · exact i109
  · exact i110
  · exact i111
  · exact i112
  · exact i113
  · exact i115
  · exact i116
  · exact i117
  · exact i118
  · exact i120
  · exact i122
  · exact i123
  · exact i124
  · exact i126
  · exact i128
  · exact i130
  · exact i131
  · exact i132
  · exact i133
  · exact i134
  · exact i135
  · exact i136
  · exact i137
  · exact i138
  · exact i139
  · exact i140
  · exact i142
  · exact i143
  · exact i144
  · exact i145
  · exact i146
  · exact i147
  · exact i148
  · exact i149
  · exact i150
  · exact i158
abbrev TT : Tab Try.prog := ⟨tabL, tabL_u, tabL_i⟩
theorem cmp23 : CmpT Try.prog 23 := ⟨by kernel_rfl, by kernel_rfl, by kernel_rfl, fun f hf => by
  have h : (Try.prog.fieldsOf 23).toList.all (fun f => f.name != "_") = true := by kernel_rfl
  have := List.all_eq_true.1 h f hf
  simpa using this⟩
theorem cmp24 : CmpT Try.prog 24 := ⟨by kernel_rfl, by kernel_rfl, by kernel_rfl, fun f hf => by
  have h : (Try.prog.fieldsOf 24).toList.all (fun f => f.name != "_") = true := by kernel_rfl
  have := List.all_eq_true.1 h f hf
  simpa using this⟩
theorem cmp117 : CmpT Try.prog 117 := ⟨by kernel_rfl, by kernel_rfl, by kernel_rfl, fun f hf => by
  have h : (Try.prog.fieldsOf 117).toList.all (fun f => f.name != "_") = true := by kernel_rfl
  have := List.all_eq_true.1 h f hf
  simpa using this⟩
theorem cmp118 : CmpT Try.prog 118 := ⟨by kernel_rfl, by kernel_rfl, by kernel_rfl, fun f hf => by
  have h : (Try.prog.fieldsOf 118).toList.all (fun f => f.name != "_") = true := by kernel_rfl
  have := List.all_eq_true.1 h f hf
  simpa using this⟩
theorem mixed : Try.prog.follows .mixedOrders = true := by kernel_rfl
theorem c3 : Callable Try.prog 3 := Callable.of Try.func3 (by kernel_rfl) rfl
theorem c4 : Callable Try.prog 4 := Callable.of Try.func4 (by kernel_rfl) rfl
theorem c5 : Callable Try.prog 5 := Callable.of Try.func5 (by kernel_rfl) rfl
theorem c6 : Callable Try.prog 6 := Callable.of Try.func6 (by kernel_rfl) rfl
theorem c7 : Callable Try.prog 7 := Callable.of Try.func7 (by kernel_rfl) rfl
theorem c8 : Callable Try.prog 8 := Callable.of Try.func8 (by kernel_rfl) rfl
theorem c9 : Callable Try.prog 9 := Callable.of Try.func9 (by kernel_rfl) rfl
theorem c10 : Callable Try.prog 10 := Callable.of Try.func10 (by kernel_rfl) rfl
theorem c11 : Callable Try.prog 11 := Callable.of Try.func11 (by kernel_rfl) rfl
theorem c12 : Callable Try.prog 12 := Callable.of Try.func12 (by kernel_rfl) rfl
theorem c13 : Callable Try.prog 13 := Callable.of Try.func13 (by kernel_rfl) rfl
theorem c14 : Callable Try.prog 14 := Callable.of Try.func14 (by kernel_rfl) rfl
theorem c15 : Callable Try.prog 15 := Callable.of Try.func15 (by kernel_rfl) rfl
theorem c16 : Callable Try.prog 16 := Callable.of Try.func16 (by kernel_rfl) rfl
theorem c17 : Callable Try.prog 17 := Callable.of Try.func17 (by kernel_rfl) rfl
theorem c18 : Callable Try.prog 18 := Callable.of Try.func18 (by kernel_rfl) rfl
theorem c19 : Callable Try.prog 19 := Callable.of Try.func19 (by kernel_rfl) rfl
theorem c20 : Callable Try.prog 20 := Callable.of Try.func20 (by kernel_rfl) rfl
theorem c21 : Callable Try.prog 21 := Callable.of Try.func21 (by kernel_rfl) rfl
theorem c22 : Callable Try.prog 22 := Callable.of Try.func22 (by kernel_rfl) rfl
theorem c23 : Callable Try.prog 23 := Callable.of Try.func23 (by kernel_rfl) rfl
theorem c24 : Callable Try.prog 24 := Callable.of Try.func24 (by kernel_rfl) rfl
theorem c25 : Callable Try.prog 25 := Callable.of Try.func25 (by kernel_rfl) rfl
theorem c26 : Callable Try.prog 26 := Callable.of Try.func26 (by kernel_rfl) rfl
theorem c27 : Callable Try.prog 27 := Callable.of Try.func27 (by kernel_rfl) rfl
theorem c28 : Callable Try.prog 28 := Callable.of Try.func28 (by kernel_rfl) rfl
theorem c29 : Callable Try.prog 29 := Callable.of Try.func29 (by kernel_rfl) rfl
theorem c30 : Callable Try.prog 30 := Callable.of Try.func30 (by kernel_rfl) rfl
theorem c31 : Callable Try.prog 31 := Callable.of Try.func31 (by kernel_rfl) rfl
theorem c32 : Callable Try.prog 32 := Callable.of Try.func32 (by kernel_rfl) rfl
theorem c33 : Callable Try.prog 33 := Callable.of Try.func33 (by kernel_rfl) rfl
theorem c34 : Callable Try.prog 34 := Callable.of Try.func34 (by kernel_rfl) rfl
theorem c35 : Callable Try.prog 35 := Callable.of Try.func35 (by kernel_rfl) rfl
theorem c36 : Callable Try.prog 36 := Callable.of Try.func36 (by kernel_rfl) rfl
theorem c37 : Callable Try.prog 37 := Callable.of Try.func37 (by kernel_rfl) rfl
theorem c38 : Callable Try.prog 38 := Callable.of Try.func38 (by kernel_rfl) rfl
theorem c39 : Callable Try.prog 39 := Callable.of Try.func39 (by kernel_rfl) rfl
theorem c40 : Callable Try.prog 40 := Callable.of Try.func40 (by kernel_rfl) rfl
theorem c41 : Callable Try.prog 41 := Callable.of Try.func41 (by kernel_rfl) rfl
theorem c42 : Callable Try.prog 42 := Callable.of Try.func42 (by kernel_rfl) rfl
theorem c43 : Callable Try.prog 43 := Callable.of Try.func43 (by kernel_rfl) rfl
theorem c44 : Callable Try.prog 44 := Callable.of Try.func44 (by kernel_rfl) rfl
theorem c45 : Callable Try.prog 45 := Callable.of Try.func45 (by kernel_rfl) rfl
theorem c46 : Callable Try.prog 46 := Callable.of Try.func46 (by kernel_rfl) rfl
theorem c47 : Callable Try.prog 47 := Callable.of Try.func47 (by kernel_rfl) rfl
theorem c48 : Callable Try.prog 48 := Callable.of Try.func48 (by kernel_rfl) rfl
theorem c49 : Callable Try.prog 49 := Callable.of Try.func49 (by kernel_rfl) rfl
theorem c50 : Callable Try.prog 50 := Callable.of Try.func50 (by kernel_rfl) rfl
theorem c51 : Callable Try.prog 51 := Callable.of Try.func51 (by kernel_rfl) rfl
theorem c52 : Callable Try.prog 52 := Callable.of Try.func52 (by kernel_rfl) rfl
theorem c53 : Callable Try.prog 53 := Callable.of Try.func53 (by kernel_rfl) rfl
theorem c54 : Callable Try.prog 54 := Callable.of Try.func54 (by kernel_rfl) rfl
theorem c55 : Callable Try.prog 55 := Callable.of Try.func55 (by kernel_rfl) rfl
theorem c56 : Callable Try.prog 56 := Callable.of Try.func56 (by kernel_rfl) rfl
theorem c57 : Callable Try.prog 57 := Callable.of Try.func57 (by kernel_rfl) rfl
theorem c58 : Callable Try.prog 58 := Callable.of Try.func58 (by kernel_rfl) rfl
theorem c59 : Callable Try.prog 59 := Callable.of Try.func59 (by kernel_rfl) rfl
theorem c60 : Callable Try.prog 60 := Callable.of Try.func60 (by kernel_rfl) rfl
theorem c61 : Callable Try.prog 61 := Callable.of Try.func61 (by kernel_rfl) rfl
theorem c62 : Callable Try.prog 62 := Callable.of Try.func62 (by kernel_rfl) rfl
theorem c63 : Callable Try.prog 63 := Callable.of Try.func63 (by kernel_rfl) rfl
theorem c64 : Callable Try.prog 64 := Callable.of Try.func64 (by kernel_rfl) rfl
theorem c65 : Callable Try.prog 65 := Callable.of Try.func65 (by kernel_rfl) rfl
theorem c66 : Callable Try.prog 66 := Callable.of Try.func66 (by kernel_rfl) rfl
theorem c67 : Callable Try.prog 67 := Callable.of Try.func67 (by kernel_rfl) rfl
theorem c68 : Callable Try.prog 68 := Callable.of Try.func68 (by kernel_rfl) rfl
theorem c69 : Callable Try.prog 69 := Callable.of Try.func69 (by kernel_rfl) rfl
theorem c70 : Callable Try.prog 70 := Callable.of Try.func70 (by kernel_rfl) rfl
theorem c71 : Callable Try.prog 71 := Callable.of Try.func71 (by kernel_rfl) rfl
theorem c72 : Callable Try.prog 72 := Callable.of Try.func72 (by kernel_rfl) rfl
theorem c73 : Callable Try.prog 73 := Callable.of Try.func73 (by kernel_rfl) rfl
theorem c74 : Callable Try.prog 74 := Callable.of Try.func74 (by kernel_rfl) rfl
theorem c75 : Callable Try.prog 75 := Callable.of Try.func75 (by kernel_rfl) rfl
theorem c76 : Callable Try.prog 76 := Callable.of Try.func76 (by kernel_rfl) rfl
theorem c77 : Callable Try.prog 77 := Callable.of Try.func77 (by kernel_rfl) rfl
theorem c78 : Callable Try.prog 78 := Callable.of Try.func78 (by kernel_rfl) rfl
theorem c79 : Callable Try.prog 79 := Callable.of Try.func79 (by kernel_rfl) rfl
theorem c80 : Callable Try.prog 80 := Callable.of Try.func80 (by kernel_rfl) rfl
theorem c81 : Callable Try.prog 81 := Callable.of Try.func81 (by kernel_rfl) rfl
theorem c82 : Callable Try.prog 82 := Callable.of Try.func82 (by kernel_rfl) rfl
theorem c83 : Callable Try.prog 83 := Callable.of Try.func83 (by kernel_rfl) rfl
theorem c84 : Callable Try.prog 84 := Callable.of Try.func84 (by kernel_rfl) rfl
theorem c85 : Callable Try.prog 85 := Callable.of Try.func85 (by kernel_rfl) rfl
theorem c86 : Callable Try.prog 86 := Callable.of Try.func86 (by kernel_rfl) rfl
theorem c87 : Callable Try.prog 87 := Callable.of Try.func87 (by kernel_rfl) rfl
theorem c88 : Callable Try.prog 88 := Callable.of Try.func88 (by kernel_rfl) rfl
theorem c89 : Callable Try.prog 89 := Callable.of Try.func89 (by kernel_rfl) rfl
theorem c90 : Callable Try.prog 90 := Callable.of Try.func90 (by kernel_rfl) rfl
theorem c91 : Callable Try.prog 91 := Callable.of Try.func91 (by kernel_rfl) rfl
theorem c92 : Callable Try.prog 92 := Callable.of Try.func92 (by kernel_rfl) rfl
theorem c93 : Callable Try.prog 93 := Callable.of Try.func93 (by kernel_rfl) rfl
theorem c94 : Callable Try.prog 94 := Callable.of Try.func94 (by kernel_rfl) rfl
theorem c95 : Callable Try.prog 95 := Callable.of Try.func95 (by kernel_rfl) rfl
theorem c96 : Callable Try.prog 96 := Callable.of Try.func96 (by kernel_rfl) rfl
theorem c97 : Callable Try.prog 97 := Callable.of Try.func97 (by kernel_rfl) rfl
theorem c98 : Callable Try.prog 98 := Callable.of Try.func98 (by kernel_rfl) rfl
theorem c99 : Callable Try.prog 99 := Callable.of Try.func99 (by kernel_rfl) rfl
end Go.Proofs.Ytejdkcnbflpfaaa.B
