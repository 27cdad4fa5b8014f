/- The functions of the program that the law reaches, printed as predicates, with the proofs that they are the code. No conditions of its own. -/
import Derived.Test.YthbmhdlbphkljaaGreatDoorZa
namespace Go.Proofs.YthbmhdlbphkljaaGreatDoor
open Go Go.X
set_option maxRecDepth 1000000
/-- main.main -/
abbrev n_main_main : FuncId := 0
/-- gosem.cut -/
abbrev n_gosem_cut : FuncId := 1
/-- gosem.cut.init -/
abbrev n_gosem_cut_init : FuncId := 2
/-- abacist/abacistlaw25.GridEntries -/
abbrev n_law25_GridEntries : FuncId := 3
/-- abacist/abacistlaw25.GridOrders -/
abbrev n_law25_GridOrders : FuncId := 4
/-- abacist/abacistlaw25.known -/
abbrev n_law25_known : FuncId := 5
/-- abacist/grid.Find -/
abbrev n_grid_Find : FuncId := 6
/-- abacist/abacistref25.Find -/
abbrev n_ref25_Find : FuncId := 7
/-- abacist/grid.Less -/
abbrev n_grid_Less : FuncId := 8
/-- abacist/abacistref25.Less -/
abbrev n_ref25_Less : FuncId := 9
/-- abacist/abacistref25.Entries -/
abbrev n_ref25_Entries : FuncId := 10
/-- abacist/grid.Put -/
abbrev n_grid_Put : FuncId := 11
/-- abacist/abacistref25.Put -/
abbrev n_ref25_Put : FuncId := 12
/-- abacist/grid.Drop -/
abbrev n_grid_Drop : FuncId := 13
/-- abacist/abacistref25.Drop -/
abbrev n_ref25_Drop : FuncId := 14
/-- abacist/grid.Read -/
abbrev n_grid_Read : FuncId := 15
/-- slices.IndexFunc[[]abacist/api.Entry,abacist/api.Entry] -/
abbrev n_slices_IndexFunc__api_Entry_api_Entry_ : FuncId := 16
/-- abacist/grid.Find$1 -/
abbrev n_grid_Find_1 : FuncId := 17
/-- abacist/grid.Find$2 -/
abbrev n_grid_Find_2 : FuncId := 18
/-- cmp.Or[int] -/
abbrev n_cmp_Or_int_ : FuncId := 19
/-- cmp.Compare[int] -/
abbrev n_cmp_Compare_int_ : FuncId := 20
/-- slices.Clone[[]abacist/api.Entry,abacist/api.Entry] -/
abbrev n_slices_Clone__api_Entry_api_Entry_ : FuncId := 21
/-- slices.Insert[[]abacist/api.Entry,abacist/api.Entry] -/
abbrev n_slices_Insert__api_Entry_api_Entry_ : FuncId := 22
/-- slices.Delete[[]abacist/api.Entry,abacist/api.Entry] -/
abbrev n_slices_Delete__api_Entry_api_Entry_ : FuncId := 23
/-- strings.CutPrefix -/
abbrev n_strings_CutPrefix : FuncId := 24
/-- abacist/grid.formula -/
abbrev n_grid_formula : FuncId := 25
/-- abacist/value.Literal -/
abbrev n_value_Literal : FuncId := 26
/-- abacist/value.Content -/
abbrev n_value_Content : FuncId := 27
/-- cmp.isNaN[int] -/
abbrev n_cmp_isNaN_int_ : FuncId := 28
/-- slices.overlaps[abacist/api.Entry] -/
abbrev n_slices_overlaps_api_Entry_ : FuncId := 29
/-- slices.rotateRight[abacist/api.Entry] -/
abbrev n_slices_rotateRight_api_Entry_ : FuncId := 30
/-- internal/stringslite.CutPrefix -/
abbrev n_internal_stringslite_CutPrefix : FuncId := 31
/-- abacist/parse.Formula -/
abbrev n_parse_Formula : FuncId := 32
/-- abacist/print.Formula -/
abbrev n_print_Formula : FuncId := 33
/-- abacist/value.Truth -/
abbrev n_value_Truth : FuncId := 34
/-- abacist/value.Named -/
abbrev n_value_Named : FuncId := 35
/-- abacist/value.Fault -/
abbrev n_value_Fault : FuncId := 36
/-- abacist/numtext.Parse -/
abbrev n_numtext_Parse : FuncId := 37
/-- abacist/value.Num -/
abbrev n_value_Num : FuncId := 38
/-- abacist/value.plain -/
abbrev n_value_plain : FuncId := 39
/-- abacist/value.Text -/
abbrev n_value_Text : FuncId := 40
/-- abacist/value.Right -/
abbrev n_value_Right : FuncId := 41
/-- abacist/value.Show -/
abbrev n_value_Show : FuncId := 42
/-- strings.HasPrefix -/
abbrev n_strings_HasPrefix : FuncId := 43
/-- slices.rotateLeft[abacist/api.Entry] -/
abbrev n_slices_rotateLeft_api_Entry_ : FuncId := 44
/-- internal/stringslite.HasPrefix -/
abbrev n_internal_stringslite_HasPrefix : FuncId := 45
/-- abacist/lex.All -/
abbrev n_lex_All : FuncId := 46
/-- (*abacist/parse.reader).formula -/
abbrev n_parse_reader_formula : FuncId := 47
/-- (*abacist/parse.reader).need -/
abbrev n_parse_reader_need : FuncId := 48
/-- abacist/ast.Right -/
abbrev n_ast_Right : FuncId := 49
/-- abacist/print.text -/
abbrev n_print_text : FuncId := 50
/-- abacist/value.names -/
abbrev n_value_names : FuncId := 51
/-- abacist/value.Name -/
abbrev n_value_Name : FuncId := 52
/-- strings.Cut -/
abbrev n_strings_Cut : FuncId := 53
/-- abacist/numtext.fraction -/
abbrev n_numtext_fraction : FuncId := 54
/-- abacist/numtext.Decimal -/
abbrev n_numtext_Decimal : FuncId := 55
/-- abacist/rat.Neg -/
abbrev n_rat_Neg : FuncId := 56
/-- abacist/rat.Right -/
abbrev n_rat_Right : FuncId := 57
/-- abacist/rat.Of -/
abbrev n_rat_Of : FuncId := 58
/-- abacist/numtext.Text -/
abbrev n_numtext_Text : FuncId := 59
/-- slices.Reverse[[]abacist/api.Entry,abacist/api.Entry] -/
abbrev n_slices_Reverse__api_Entry_api_Entry_ : FuncId := 60
/-- abacist/lex.Next -/
abbrev n_lex_Next : FuncId := 61
/-- (*abacist/parse.reader).level -/
abbrev n_parse_reader_level : FuncId := 62
/-- (*abacist/parse.reader).is -/
abbrev n_parse_reader_is : FuncId := 63
/-- (*abacist/parse.reader).fail -/
abbrev n_parse_reader_fail : FuncId := 64
/-- (*abacist/parse.reader).take -/
abbrev n_parse_reader_take : FuncId := 65
/-- abacist/ast.whole -/
abbrev n_ast_whole : FuncId := 66
/-- abacist/print.text$1 -/
abbrev n_print_text_1 : FuncId := 67
/-- abacist/ast.Level -/
abbrev n_ast_Level : FuncId := 68
/-- abacist/parse.Sign -/
abbrev n_parse_Sign : FuncId := 69
/-- strings.Join -/
abbrev n_strings_Join : FuncId := 70
/-- abacist/print.leaf -/
abbrev n_print_leaf : FuncId := 71
/-- internal/stringslite.Cut -/
abbrev n_internal_stringslite_Cut : FuncId := 72
/-- abacist/dec.Parse -/
abbrev n_dec_Parse : FuncId := 73
/-- abacist/rat.Make -/
abbrev n_rat_Make : FuncId := 74
/-- abacist/whole.Make -/
abbrev n_whole_Make : FuncId := 75
/-- abacist/numtext.digits -/
abbrev n_numtext_digits : FuncId := 76
/-- abacist/numtext.power -/
abbrev n_numtext_power : FuncId := 77
/-- abacist/rat.well -/
abbrev n_rat_well : FuncId := 78
/-- abacist/rat.tidy -/
abbrev n_rat_tidy : FuncId := 79
/-- abacist/divide.Gcd -/
abbrev n_divide_Gcd : FuncId := 80
/-- abacist/whole.Of -/
abbrev n_whole_Of : FuncId := 81
/-- abacist/numtext.well -/
abbrev n_numtext_well : FuncId := 82
/-- abacist/numtext.Ends -/
abbrev n_numtext_Ends : FuncId := 83
/-- abacist/numtext.Point -/
abbrev n_numtext_Point : FuncId := 84
/-- abacist/dec.Text -/
abbrev n_dec_Text : FuncId := 85
/-- abacist/lex.run -/
abbrev n_lex_run : FuncId := 86
/-- abacist/lex.Next$1 -/
abbrev n_lex_Next_1 : FuncId := 87
/-- abacist/lex.digit -/
abbrev n_lex_digit : FuncId := 88
/-- abacist/lex.number -/
abbrev n_lex_number : FuncId := 89
/-- abacist/lex.text -/
abbrev n_lex_text : FuncId := 90
/-- abacist/lex.fault -/
abbrev n_lex_fault : FuncId := 91
/-- abacist/lex.letter -/
abbrev n_lex_letter : FuncId := 92
/-- abacist/lex.sign -/
abbrev n_lex_sign : FuncId := 93
/-- (*abacist/parse.reader).minus -/
abbrev n_parse_reader_minus : FuncId := 94
/-- (*abacist/parse.reader).level$1 -/
abbrev n_parse_reader_level_1 : FuncId := 95
/-- (*abacist/parse.reader).between -/
abbrev n_parse_reader_between : FuncId := 96
/-- (*abacist/parse.reader).node -/
abbrev n_parse_reader_node : FuncId := 97
/-- abacist/ast.built -/
abbrev n_ast_built : FuncId := 98
/-- abacist/parse.signs -/
abbrev n_parse_signs : FuncId := 99
/-- (*strings.Builder).Grow -/
abbrev n_strings_Builder_Grow : FuncId := 100
/-- (*strings.Builder).WriteString -/
abbrev n_strings_Builder_WriteString : FuncId := 101
/-- (*strings.Builder).String -/
abbrev n_strings_Builder_String : FuncId := 102
/-- abacist/print.Quote -/
abbrev n_print_Quote : FuncId := 103
/-- abacist/ref.Text -/
abbrev n_ref_Text : FuncId := 104
/-- internal/stringslite.Index -/
abbrev n_internal_stringslite_Index : FuncId := 105
/-- abacist/dec.odd -/
abbrev n_dec_odd : FuncId := 106
/-- abacist/nat.Add -/
abbrev n_nat_Add : FuncId := 107
/-- abacist/nat.Mul -/
abbrev n_nat_Mul : FuncId := 108
/-- abacist/nat.Of -/
abbrev n_nat_Of : FuncId := 109
/-- abacist/nat.Trim -/
abbrev n_nat_Trim : FuncId := 110
/-- abacist/divide.DivMod -/
abbrev n_divide_DivMod : FuncId := 111
/-- abacist/divide.Pow -/
abbrev n_divide_Pow : FuncId := 112
/-- abacist/dec.Twos -/
abbrev n_dec_Twos : FuncId := 113
/-- strings.Repeat -/
abbrev n_strings_Repeat : FuncId := 114
/-- abacist/nat.Small -/
abbrev n_nat_Small : FuncId := 115
/-- abacist/dec.digits -/
abbrev n_dec_digits : FuncId := 116
/-- strings.TrimLeft -/
abbrev n_strings_TrimLeft : FuncId := 117
/-- (*strings.Builder).WriteByte -/
abbrev n_strings_Builder_WriteByte : FuncId := 118
/-- (*abacist/parse.reader).percent -/
abbrev n_parse_reader_percent : FuncId := 119
/-- (*abacist/parse.reader).within -/
abbrev n_parse_reader_within : FuncId := 120
/-- abacist/ast.may -/
abbrev n_ast_may : FuncId := 121
/-- abacist/ast.kids -/
abbrev n_ast_kids : FuncId := 122
/-- abacist/ast.nest -/
abbrev n_ast_nest : FuncId := 123
/-- (*strings.Builder).copyCheck -/
abbrev n_strings_Builder_copyCheck : FuncId := 124
/-- (*strings.Builder).grow -/
abbrev n_strings_Builder_grow : FuncId := 125
/-- strings.ReplaceAll -/
abbrev n_strings_ReplaceAll : FuncId := 126
/-- abacist/ref.Right -/
abbrev n_ref_Right : FuncId := 127
/-- abacist/addr.Col -/
abbrev n_addr_Col : FuncId := 128
/-- abacist/addr.Text -/
abbrev n_addr_Text : FuncId := 129
/-- strings.TrimPrefix -/
abbrev n_strings_TrimPrefix : FuncId := 130
/-- internal/stringslite.IndexByte -/
abbrev n_internal_stringslite_IndexByte : FuncId := 131
/-- internal/bytealg.IndexString -/
abbrev n_internal_bytealg_IndexString : FuncId := 132
/-- internal/bytealg.Cutover -/
abbrev n_internal_bytealg_Cutover : FuncId := 133
/-- internal/bytealg.IndexRabinKarp[string] -/
abbrev n_internal_bytealg_IndexRabinKarp_string_ : FuncId := 134
/-- abacist/nat.read -/
abbrev n_nat_read : FuncId := 135
/-- (abacist/nat.limbs).at -/
abbrev n_nat_limbs_at : FuncId := 136
/-- (abacist/nat.limbs).text -/
abbrev n_nat_limbs_text : FuncId := 137
/-- abacist/divide.read -/
abbrev n_divide_read : FuncId := 138
/-- abacist/nat.Cmp -/
abbrev n_nat_Cmp : FuncId := 139
/-- (abacist/divide.limbs).short -/
abbrev n_divide_limbs_short : FuncId := 140
/-- (abacist/divide.limbs).long -/
abbrev n_divide_limbs_long : FuncId := 141
/-- (abacist/divide.limbs).text -/
abbrev n_divide_limbs_text : FuncId := 142
/-- abacist/divide.Pow$1 -/
abbrev n_divide_Pow_1 : FuncId := 143
/-- math/bits.Len -/
abbrev n_math_bits_Len : FuncId := 144
/-- abacist/dec.often -/
abbrev n_dec_often : FuncId := 145
/-- math/bits.Mul -/
abbrev n_math_bits_Mul : FuncId := 146
/-- (*strings.Builder).Len -/
abbrev n_strings_Builder_Len : FuncId := 147
/-- strings.trimLeftByte -/
abbrev n_strings_trimLeftByte : FuncId := 148
/-- strings.makeASCIISet -/
abbrev n_strings_makeASCIISet : FuncId := 149
/-- strings.trimLeftASCII -/
abbrev n_strings_trimLeftASCII : FuncId := 150
/-- strings.trimLeftUnicode -/
abbrev n_strings_trimLeftUnicode : FuncId := 151
/-- (*abacist/parse.reader).single -/
abbrev n_parse_reader_single : FuncId := 152
/-- abacist/ast.number -/
abbrev n_ast_number : FuncId := 153
/-- abacist/ast.box -/
abbrev n_ast_box : FuncId := 154
/-- abacist/ast.named -/
abbrev n_ast_named : FuncId := 155
/-- internal/abi.NoEscape -/
abbrev n_internal_abi_NoEscape : FuncId := 156
/-- internal/bytealg.MakeNoZero -/
abbrev n_internal_bytealg_MakeNoZero : FuncId := 157
/-- strings.Replace -/
abbrev n_strings_Replace : FuncId := 158
/-- abacist/ref.Named -/
abbrev n_ref_Named : FuncId := 159
/-- abacist/addr.In -/
abbrev n_addr_In : FuncId := 160
/-- abacist/addr.within -/
abbrev n_addr_within : FuncId := 161
/-- strconv.Itoa -/
abbrev n_strconv_Itoa : FuncId := 162
/-- internal/stringslite.TrimPrefix -/
abbrev n_internal_stringslite_TrimPrefix : FuncId := 163
/-- internal/bytealg.IndexByteString -/
abbrev n_internal_bytealg_IndexByteString : FuncId := 164
/-- internal/bytealg.hashStr[string] -/
abbrev n_internal_bytealg_hashStr_string_ : FuncId := 165
/-- (abacist/nat.limbs).cut -/
abbrev n_nat_limbs_cut : FuncId := 166
/-- slices.Backward[abacist/nat.limbs,uint32] -/
abbrev n_slices_Backward_nat_limbs_uint32_ : FuncId := 167
/-- (abacist/nat.limbs).cmp -/
abbrev n_nat_limbs_cmp : FuncId := 168
/-- slices.Backward[abacist/divide.limbs,uint32] -/
abbrev n_slices_Backward_divide_limbs_uint32_ : FuncId := 169
/-- math/bits.LeadingZeros32 -/
abbrev n_math_bits_LeadingZeros32 : FuncId := 170
/-- (abacist/divide.limbs).shifted -/
abbrev n_divide_limbs_shifted : FuncId := 171
/-- abacist/divide.guess -/
abbrev n_divide_guess : FuncId := 172
/-- (abacist/divide.limbs).take -/
abbrev n_divide_limbs_take : FuncId := 173
/-- (abacist/divide.limbs).give -/
abbrev n_divide_limbs_give : FuncId := 174
/-- (abacist/divide.limbs).back -/
abbrev n_divide_limbs_back : FuncId := 175
/-- math/bits.Len32 -/
abbrev n_math_bits_Len32 : FuncId := 176
/-- math/bits.Len64 -/
abbrev n_math_bits_Len64 : FuncId := 177
/-- math/bits.Mul32 -/
abbrev n_math_bits_Mul32 : FuncId := 178
/-- math/bits.Mul64 -/
abbrev n_math_bits_Mul64 : FuncId := 179
/-- (*strings.asciiSet).contains -/
abbrev n_strings_asciiSet_contains : FuncId := 180
/-- unicode/utf8.DecodeRuneInString -/
abbrev n_unicode_utf8_DecodeRuneInString : FuncId := 181
/-- strings.ContainsRune -/
abbrev n_strings_ContainsRune : FuncId := 182
/-- (*abacist/parse.reader).word -/
abbrev n_parse_reader_word : FuncId := 183
/-- (abacist/addr.Area).Size -/
abbrev n_addr_Area_Size : FuncId := 184
/-- strings.Count -/
abbrev n_strings_Count : FuncId := 185
/-- strings.Index -/
abbrev n_strings_Index : FuncId := 186
/-- abacist/ref.letter -/
abbrev n_ref_letter : FuncId := 187
/-- abacist/ref.digit -/
abbrev n_ref_digit : FuncId := 188
/-- abacist/ref.capital -/
abbrev n_ref_capital : FuncId := 189
/-- abacist/ref.addressed -/
abbrev n_ref_addressed : FuncId := 190
/-- internal/strconv.Itoa -/
abbrev n_internal_strconv_Itoa : FuncId := 191
/-- slices.Backward[abacist/nat.limbs,uint32]$1 -/
abbrev n_slices_Backward_nat_limbs_uint32_1 : FuncId := 192
/-- abacist/nat.sign -/
abbrev n_nat_sign : FuncId := 193
/-- slices.Backward[abacist/divide.limbs,uint32]$1 -/
abbrev n_slices_Backward_divide_limbs_uint32_1 : FuncId := 194
/-- unicode/utf8.decodeRuneInStringSlow -/
abbrev n_unicode_utf8_decodeRuneInStringSlow : FuncId := 195
/-- strings.IndexRune -/
abbrev n_strings_IndexRune : FuncId := 196
/-- (*abacist/parse.reader).call -/
abbrev n_parse_reader_call : FuncId := 197
/-- (*abacist/parse.reader).cell -/
abbrev n_parse_reader_cell : FuncId := 198
/-- (abacist/addr.Area).well -/
abbrev n_addr_Area_well : FuncId := 199
/-- (abacist/addr.Area).size -/
abbrev n_addr_Area_size : FuncId := 200
/-- unicode/utf8.RuneCountInString -/
abbrev n_unicode_utf8_RuneCountInString : FuncId := 201
/-- internal/bytealg.CountString -/
abbrev n_internal_bytealg_CountString : FuncId := 202
/-- internal/strconv.FormatInt -/
abbrev n_internal_strconv_FormatInt : FuncId := 203
/-- strings.IndexByte -/
abbrev n_strings_IndexByte : FuncId := 204
/-- unicode/utf8.ValidRune -/
abbrev n_unicode_utf8_ValidRune : FuncId := 205
/-- abacist/parse.Named -/
abbrev n_parse_Named : FuncId := 206
/-- (*abacist/parse.reader).call$1 -/
abbrev n_parse_reader_call_1 : FuncId := 207
/-- (*abacist/parse.reader).args -/
abbrev n_parse_reader_args : FuncId := 208
/-- (*abacist/parse.reader).reference -/
abbrev n_parse_reader_reference : FuncId := 209
/-- (abacist/addr.Area).Norm -/
abbrev n_addr_Area_Norm : FuncId := 210
/-- internal/strconv.small -/
abbrev n_internal_strconv_small : FuncId := 211
/-- internal/strconv.numDigits -/
abbrev n_internal_strconv_numDigits : FuncId := 212
/-- internal/strconv.formatBase10 -/
abbrev n_internal_strconv_formatBase10 : FuncId := 213
/-- internal/strconv.formatBits -/
abbrev n_internal_strconv_formatBits : FuncId := 214
/-- abacist/ref.Parse -/
abbrev n_ref_Parse : FuncId := 215
/-- internal/strconv.log10Pow2 -/
abbrev n_internal_strconv_log10Pow2 : FuncId := 216
/-- internal/strconv.bool2[int] -/
abbrev n_internal_strconv_bool2_int_ : FuncId := 217
/-- internal/strconv.isPowerOfTwo -/
abbrev n_internal_strconv_isPowerOfTwo : FuncId := 218
/-- math/bits.TrailingZeros -/
abbrev n_math_bits_TrailingZeros : FuncId := 219
/-- abacist/addr.Parse -/
abbrev n_addr_Parse : FuncId := 220
/-- math/bits.TrailingZeros32 -/
abbrev n_math_bits_TrailingZeros32 : FuncId := 221
/-- math/bits.TrailingZeros64 -/
abbrev n_math_bits_TrailingZeros64 : FuncId := 222
/-- abacist/addr.split -/
abbrev n_addr_split : FuncId := 223
/-- abacist/addr.number -/
abbrev n_addr_number : FuncId := 224
/-- abacist/addr.ColOf -/
abbrev n_addr_ColOf : FuncId := 225
/-- (runtime.boundsError).Error -/
abbrev n_runtime_boundsError_Error : FuncId := 226
/-- (runtime.boundsError).RuntimeError -/
abbrev n_runtime_boundsError_RuntimeError : FuncId := 227
/-- (runtime.errorString).Error -/
abbrev n_runtime_errorString_Error : FuncId := 228
/-- (runtime.errorString).RuntimeError -/
abbrev n_runtime_errorString_RuntimeError : FuncId := 229
/-- (runtime.plainError).Error -/
abbrev n_runtime_plainError_Error : FuncId := 230
/-- (runtime.plainError).RuntimeError -/
abbrev n_runtime_plainError_RuntimeError : FuncId := 231
/-- (runtime.errorAddressString).Error -/
abbrev n_runtime_errorAddressString_Error : FuncId := 232
/-- (runtime.errorAddressString).RuntimeError -/
abbrev n_runtime_errorAddressString_RuntimeError : FuncId := 233
/-- (*runtime.TypeAssertionError).Error -/
abbrev n_runtime_TypeAssertionError_Error : FuncId := 234
/-- (*runtime.TypeAssertionError).RuntimeError -/
abbrev n_runtime_TypeAssertionError_RuntimeError : FuncId := 235
/-- (*runtime.PanicNilError).Error -/
abbrev n_runtime_PanicNilError_Error : FuncId := 236
/-- (*runtime.PanicNilError).RuntimeError -/
abbrev n_runtime_PanicNilError_RuntimeError : FuncId := 237
/-- (*internal/abi.Type).Align -/
abbrev n_internal_abi_Type_Align : FuncId := 238
/-- (internal/runtime/maps.unhashableTypeError).Error -/
abbrev n_internal_runtime_maps_unhashableTypeError_Error : FuncId := 239
/-- (internal/runtime/maps.unhashableTypeError).RuntimeError -/
abbrev n_internal_runtime_maps_unhashableTypeError_RuntimeError : FuncId := 240
/-- (*strings.Builder).Reset -/
abbrev n_strings_Builder_Reset : FuncId := 241
/-- (internal/abi.Kind).String -/
abbrev n_internal_abi_Kind_String : FuncId := 242
/-- var's door: gosem.cut.vars holds initialisers alone; see the manifest's row cutvarsword (look 11, test files too) -/
abbrev n_var_s_door_gosem_cut_vars_holds_initialisers_alone_see_the_manifest_s_row_cutvarsword_look_11_test_files_too_ : FuncId := 243
/-- var's door: internal/strconv.uint64pow10 is laid by its own initialiser, plain data (look 11) -/
abbrev n_var_s_door_internal_strconv_uint64pow10_is_laid_by_its_own_initialiser_plain_data_look_11_ : FuncId := 244
/-- var's door: math/bits.deBruijn32tab is laid by its own initialiser, plain data (look 11) -/
abbrev n_var_s_door_math_bits_deBruijn32tab_is_laid_by_its_own_initialiser_plain_data_look_11_ : FuncId := 245
/-- var's door: math/bits.deBruijn64tab is laid by its own initialiser, plain data (look 11) -/
abbrev n_var_s_door_math_bits_deBruijn64tab_is_laid_by_its_own_initialiser_plain_data_look_11_ : FuncId := 246
/-- var's door: the look of gosem.cut.vars went over the folder that the caller named as the repository's root (look 11) -/
abbrev n_var_s_door_the_look_of_gosem_cut_vars_went_over_the_folder_that_the_caller_named_as_the_repository_s_root_look_11_ : FuncId := 247
/-- var's door: unicode/utf8.acceptRanges is laid by its own initialiser, plain data (look 11) -/
abbrev n_var_s_door_unicode_utf8_acceptRanges_is_laid_by_its_own_initialiser_plain_data_look_11_ : FuncId := 248
/-- var's door: unicode/utf8.first is laid by its text alone (pinned 1) -/
abbrev n_var_s_door_unicode_utf8_first_is_laid_by_its_text_alone_pinned_1_ : FuncId := 249
/-- gosem.cut.vars -/
abbrev n_gosem_cut_vars : FuncId := 250
end Go.Proofs.YthbmhdlbphkljaaGreatDoor
